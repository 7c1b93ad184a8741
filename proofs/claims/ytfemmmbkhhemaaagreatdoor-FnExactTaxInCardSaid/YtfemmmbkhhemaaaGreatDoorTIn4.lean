/-
  Parts of the proof of taxIn_holds: G7, G8, GData, SxMem, SxData, SxOwn, DInts.
  Conditions: none.
-/
import Derived.Laws.AppendOwn
import Derived.Laws.CopyRow
import Derived.Test.YtfemmmbkhhemaaaGreatDoorTIn3

namespace Go.Proofs.YtfemmmbkhhemaaaGreatDoor
open Go Go.Proofs.YtfemmmbkhhemaaaGreatDoor.Sx
set_option linter.unusedVariables false
set_option maxRecDepth 100000
def spec_l07Both_j0 (r : Nat) (r_1 : Nat) (r_2 : Nat) (r_3 : Nat) (scale : Int) (W : World) (R : Value → World → Prop) : Prop :=
  ∃ (t170 : Bool) (t171_p : Option Addr) (t171_n : Nat) (t171_c : Nat), (∀ wv_4, Ext W.drew wv_4 → Loads P 31 ((⟨r, 0, none⟩ : Addr).add 0) (.agg #[(.bool t170), (.slice t171_p t171_n t171_c)]) wv_4) ∧ ∃ (t20 : Int), (∀ wv_5, Ext W.drew wv_5 → Loads P 3 ((⟨r, 0, none⟩ : Addr).add 2) (.int .i64 t20) wv_5) ∧ ∃ t21 : Int, t21 = IntKind.wrap .i64 (scale - t20) ∧ Calls P 89 ⟨[(.int .i64 t21)]⟩ W.drew fun e wv_6 =>
  ∃ (t220 : Bool) (t221_p : Option Addr) (t221_n : Nat) (t221_c : Nat), e = .returned (.agg #[(.bool t220), (.slice t221_p t221_n t221_c)]) ∧
  Ext W.drew wv_6 ∧ Calls P 157 ⟨[(.agg #[(.bool t170), (.slice t171_p t171_n t171_c)]), (.agg #[(.bool t220), (.slice t221_p t221_n t221_c)])]⟩ wv_6 fun e_1 wv_7 =>
  ∃ (t230 : Bool) (t231_p : Option Addr) (t231_n : Nat) (t231_c : Nat), e_1 = .returned (.agg #[(.bool t230), (.slice t231_p t231_n t231_c)]) ∧
  Ext wv_6 wv_7 ∧ ∃ (t250 : Bool) (t251_p : Option Addr) (t251_n : Nat) (t251_c : Nat), (∀ wv_8, Ext W.drew wv_8 → Loads P 31 ((⟨r_1, 0, none⟩ : Addr).add 0) (.agg #[(.bool t250), (.slice t251_p t251_n t251_c)]) wv_8) ∧ ∃ (t28 : Int), (∀ wv_9, Ext W.drew wv_9 → Loads P 3 ((⟨r_1, 0, none⟩ : Addr).add 2) (.int .i64 t28) wv_9) ∧ ∃ t29 : Int, t29 = IntKind.wrap .i64 (scale - t28) ∧ Calls P 89 ⟨[(.int .i64 t29)]⟩ wv_7 fun e_2 wv_10 =>
  ∃ (t300 : Bool) (t301_p : Option Addr) (t301_n : Nat) (t301_c : Nat), e_2 = .returned (.agg #[(.bool t300), (.slice t301_p t301_n t301_c)]) ∧
  Ext wv_7 wv_10 ∧ Calls P 157 ⟨[(.agg #[(.bool t250), (.slice t251_p t251_n t251_c)]), (.agg #[(.bool t300), (.slice t301_p t301_n t301_c)])]⟩ wv_10 fun e_3 wv_11 =>
  ∃ (t310 : Bool) (t311_p : Option Addr) (t311_n : Nat) (t311_c : Nat), e_3 = .returned (.agg #[(.bool t310), (.slice t311_p t311_n t311_c)]) ∧
  ∃ wv_12, Stores P 31 ⟨r_2, 0, none⟩ (.agg #[(.bool t230), (.slice t231_p t231_n t231_c)]) wv_11 wv_12 ∧
  ∃ wv_13, Stores P 31 ⟨r_3, 0, none⟩ (.agg #[(.bool t310), (.slice t311_p t311_n t311_c)]) wv_12 wv_13 ∧
  ∃ (r0 : Bool) (r1_p : Option Addr) (r1_n : Nat) (r1_c : Nat), Loads P 31 ⟨r_2, 0, none⟩ (.agg #[(.bool r0), (.slice r1_p r1_n r1_c)]) wv_13 ∧ ∃ (r0_1 : Bool) (r1_p_1 : Option Addr) (r1_n_1 : Nat) (r1_c_1 : Nat), Loads P 31 ⟨r_3, 0, none⟩ (.agg #[(.bool r0_1), (.slice r1_p_1 r1_n_1 r1_c_1)]) wv_13 ∧ R (.tuple #[(.agg #[(.bool r0), (.slice r1_p r1_n r1_c)]), (.agg #[(.bool r0_1), (.slice r1_p_1 r1_n_1 r1_c_1)]), (.int .i64 scale)]) wv_13
def spec_l07Both (d0 : Bool) (d1_p : Option Addr) (d1_n : Nat) (d1_c : Nat) (d2 : Int) (e0 : Bool) (e1_p : Option Addr) (e1_n : Nat) (e1_c : Nat) (e2 : Int) (w : World) (R : Value → World → Prop) : Prop :=
  ∀ (r : Nat) (wv : World), New w (.cells ⟨[(.bool d0), (.slice d1_p d1_n d1_c), (.int .i64 d2)]⟩ 40 (0, 0)) r wv →
  ∀ (r_1 : Nat) (wv_1 : World), New wv (.cells ⟨[(.bool e0), (.slice e1_p e1_n e1_c), (.int .i64 e2)]⟩ 40 (0, 0)) r_1 wv_1 →
  ∀ (r_2 : Nat) (wv_2 : World), New wv_1 (.cells ⟨[(.bool false), (.slice none 0 0)]⟩ 31 (0, 0)) r_2 wv_2 →
  ∀ (r_3 : Nat) (wv_3 : World), New wv_2 (.cells ⟨[(.bool false), (.slice none 0 0)]⟩ 31 (0, 0)) r_3 wv_3 →
  ∃ (t9 : Int), Loads P 3 ((⟨r, 0, none⟩ : Addr).add 2) (.int .i64 t9) wv_3 ∧ ∃ (t11 : Int), Loads P 3 ((⟨r_1, 0, none⟩ : Addr).add 2) (.int .i64 t11) wv_3 ∧ ((decide ((t9 : Int) < t11)) = true →
    ∃ (t15 : Int), Loads P 3 ((⟨r_1, 0, none⟩ : Addr).add 2) (.int .i64 t15) wv_3 ∧ spec_l07Both_j0 r r_1 r_2 r_3 t15 wv_3 R) ∧
  ((decide ((t9 : Int) < t11)) = false →
    spec_l07Both_j0 r r_1 r_2 r_3 t9 wv_3 R)
theorem spec_l07Both_eq (d0 : Bool) (d1_p : Option Addr) (d1_n : Nat) (d1_c : Nat) (d2 : Int) (e0 : Bool) (e1_p : Option Addr) (e1_n : Nat) (e1_c : Nat) (e2 : Int) (w : World) (R : Value → World → Prop) : spec_l07Both d0 d1_p d1_n d1_c d2 e0 e1_p e1_n e1_c e2 w R = fsem P Tryz.f131 (fun k => []) [(.agg #[(.bool d0), (.slice d1_p d1_n d1_c), (.int .i64 d2)]), (.agg #[(.bool e0), (.slice e1_p e1_n e1_c), (.int .i64 e2)])] R w := by kernel_rfl
theorem spec_l07Both_ret {d0 : Bool} {d1_p : Option Addr} {d1_n : Nat} {d1_c : Nat} {d2 : Int} {e0 : Bool} {e1_p : Option Addr} {e1_n : Nat} {e1_c : Nat} {e2 : Int} {w : World} {R : Value → World → Prop} (h : spec_l07Both d0 d1_p d1_n d1_c d2 e0 e1_p e1_n e1_c e2 w R) : Ret P 131 [(.agg #[(.bool d0), (.slice d1_p d1_n d1_c), (.int .i64 d2)]), (.agg #[(.bool e0), (.slice e1_p e1_n e1_c), (.int .i64 e2)])] w R :=
  Ret.of_fsem Tryz.func131 rfl (Eq.mp (spec_l07Both_eq d0 d1_p d1_n d1_c d2 e0 e1_p e1_n e1_c e2 w R) h)
def spec_NatGcd_j0 (a_p : Option Addr) (a_n : Nat) (a_c : Nat) (b_p : Option Addr) (b_n : Nat) (b_c : Nat) (W : World) (R : Value → World → Prop) : Prop :=
  ∀ (r : Nat) (wv_1 : World), New W (.cells ⟨[]⟩ 3 (0, 0)) r wv_1 →
  ∃ (t19_p : Option Addr) (t19_n : Nat) (t19_c : Nat) (wv_2 : World), Appends P [22, 22] [(.slice (some ⟨r, 0, none⟩) 0 0), (.slice a_p a_n a_c)] (.slice t19_p t19_n t19_c) wv_1 wv_2 ∧
  ∀ (r_1 : Nat) (wv_3 : World), New wv_2 (.cells ⟨[]⟩ 3 (0, 0)) r_1 wv_3 →
  ∃ (t22_p : Option Addr) (t22_n : Nat) (t22_c : Nat) (wv_4 : World), Appends P [22, 22] [(.slice (some ⟨r_1, 0, none⟩) 0 0), (.slice b_p b_n b_c)] (.slice t22_p t22_n t22_c) wv_3 wv_4 ∧
  ∃ (Inv : Option Addr → Nat → Nat → Option Addr → Nat → Nat → World → Prop) (mu : Option Addr → Nat → Nat → Option Addr → Nat → Nat → World → Nat), Inv t19_p t19_n t19_c t22_p t22_n t22_c wv_4 ∧
  ∀ (junk : Fr) (wv_5 : World) (x_p : Option Addr) (x_n : Nat) (x_c : Nat) (y_p : Option Addr) (y_n : Nat) (y_c : Nat), Inv x_p x_n x_c y_p y_n y_c wv_5 →
    ((decide ((0 : Int) < ((y_n : Nat) : Int))) = true →
      Calls P 135 ⟨[(.slice x_p x_n x_c), (.slice y_p y_n y_c)]⟩ wv_5 fun e_1 wv_6 =>
      ∃ (t29_p : Option Addr) (t29_n : Nat) (t29_c : Nat) (t29_p_1 : Option Addr) (t29_n_1 : Nat) (t29_c_1 : Nat), e_1 = .returned (.tuple #[(.slice t29_p t29_n t29_c), (.slice t29_p_1 t29_n_1 t29_c_1)]) ∧
      Inv y_p y_n y_c t29_p_1 t29_n_1 t29_c_1 wv_6 ∧ mu y_p y_n y_c t29_p_1 t29_n_1 t29_c_1 wv_6 < mu x_p x_n x_c y_p y_n y_c wv_5) ∧
    ((decide ((0 : Int) < ((y_n : Nat) : Int))) = false →
      R (.slice x_p x_n x_c) wv_5)
def spec_NatGcd (a_p : Option Addr) (a_n : Nat) (a_c : Nat) (b_p : Option Addr) (b_n : Nat) (b_c : Nat) (w : World) (R : Value → World → Prop) : Prop :=
  Calls P 129 ⟨[(.slice a_p a_n a_c)]⟩ w fun e wv =>
  ∃ (t10 : Bool), e = .returned (.bool t10) ∧
  ((!t10) = true →
    (true = true →
      R (.slice none 0 0) wv) ∧
    (true = false →
      spec_NatGcd_j0 a_p a_n a_c b_p b_n b_c wv R)) ∧
  ((!t10) = false →
    Calls P 129 ⟨[(.slice b_p b_n b_c)]⟩ wv fun e_2 wv_7 =>
    ∃ (t14 : Bool), e_2 = .returned (.bool t14) ∧
    ((!t14) = true →
      R (.slice none 0 0) wv_7) ∧
    ((!t14) = false →
      spec_NatGcd_j0 a_p a_n a_c b_p b_n b_c wv_7 R))
theorem spec_NatGcd_eq (a_p : Option Addr) (a_n : Nat) (a_c : Nat) (b_p : Option Addr) (b_n : Nat) (b_c : Nat) (w : World) (R : Value → World → Prop) : spec_NatGcd a_p a_n a_c b_p b_n b_c w R = fsem P Tryz.f132 (fun k => cond (Nat.beq k 6) [(5, .one .slice), (6, .one .slice)] ([])) [(.slice a_p a_n a_c), (.slice b_p b_n b_c)] R w := by kernel_rfl
theorem spec_NatGcd_ret {a_p : Option Addr} {a_n : Nat} {a_c : Nat} {b_p : Option Addr} {b_n : Nat} {b_c : Nat} {w : World} {R : Value → World → Prop} (h : spec_NatGcd a_p a_n a_c b_p b_n b_c w R) : Ret P 132 [(.slice a_p a_n a_c), (.slice b_p b_n b_c)] w R :=
  Ret.of_fsem Tryz.func132 rfl (Eq.mp (spec_NatGcd_eq a_p a_n a_c b_p b_n b_c w R) h)
def spec_l02Trim (a_p : Option Addr) (a_n : Nat) (a_c : Nat) (w : World) (R : Value → World → Prop) : Prop :=
  ∃ (Inv : Int → World → Prop) (mu : Int → World → Nat), Inv ((a_n : Nat) : Int) w ∧
  ∀ (junk : Fr) (wv : World) (n : Int), Inv n wv →
    ((decide ((0 : Int) < n)) = true →
      ∃ t11 : Int, t11 = IntKind.wrap .i64 (n - 1) ∧ (0 ≤ (t11 : Int) ∧ (t11 : Int) < (a_n : Nat)) ∧ ptrS a_p fun ad => ∃ (t13 : Int), Loads P 3 (ad.add (t11.toNat * 1)) (.int .i64 t13) wv ∧ ((decide ((t13 : Int) = 0)) = true →
        ∃ t17 : Int, t17 = IntKind.wrap .i64 (n - 1) ∧ Inv t17 wv ∧ mu t17 wv < mu n wv) ∧
      ((decide ((t13 : Int) = 0)) = false →
        (0 ≤ (n : Int) ∧ (n : Int) ≤ (a_c : Nat)) ∧ R (.slice (sub a_p 0 a_c 1) (n.toNat - 0) (a_c - 0)) wv)) ∧
    ((decide ((0 : Int) < n)) = false →
      (false = true →
        ∃ t17_1 : Int, t17_1 = IntKind.wrap .i64 (n - 1) ∧ Inv t17_1 wv ∧ mu t17_1 wv < mu n wv) ∧
      (false = false →
        (0 ≤ (n : Int) ∧ (n : Int) ≤ (a_c : Nat)) ∧ R (.slice (sub a_p 0 a_c 1) (n.toNat - 0) (a_c - 0)) wv))
theorem spec_l02Trim_eq (a_p : Option Addr) (a_n : Nat) (a_c : Nat) (w : World) (R : Value → World → Prop) : spec_l02Trim a_p a_n a_c w R = fsem P Tryz.f133 (fun k => cond (Nat.beq k 3) [(3, .one (.int .i64))] ([])) [(.slice a_p a_n a_c)] R w := by kernel_rfl
theorem spec_l02Trim_ret {a_p : Option Addr} {a_n : Nat} {a_c : Nat} {w : World} {R : Value → World → Prop} (h : spec_l02Trim a_p a_n a_c w R) : Ret P 133 [(.slice a_p a_n a_c)] w R :=
  Ret.of_fsem Tryz.func133 rfl (Eq.mp (spec_l02Trim_eq a_p a_n a_c w R) h)
def spec_l05Gcd (a_p : Option Addr) (a_n : Nat) (a_c : Nat) (b_p : Option Addr) (b_n : Nat) (b_c : Nat) (w : World) (R : Value → World → Prop) : Prop :=
  ∃ (Inv : Option Addr → Nat → Nat → Option Addr → Nat → Nat → World → Prop) (mu : Option Addr → Nat → Nat → Option Addr → Nat → Nat → World → Nat), Inv a_p a_n a_c b_p b_n b_c w ∧
  ∀ (junk : Fr) (wv : World) (x_p : Option Addr) (x_n : Nat) (x_c : Nat) (y_p : Option Addr) (y_n : Nat) (y_c : Nat), Inv x_p x_n x_c y_p y_n y_c wv →
    ((decide ((0 : Int) < ((y_n : Nat) : Int))) = true →
      Calls P 135 ⟨[(.slice x_p x_n x_c), (.slice y_p y_n y_c)]⟩ wv fun e wv_1 =>
      ∃ (t17_p : Option Addr) (t17_n : Nat) (t17_c : Nat) (t17_p_1 : Option Addr) (t17_n_1 : Nat) (t17_c_1 : Nat), e = .returned (.tuple #[(.slice t17_p t17_n t17_c), (.slice t17_p_1 t17_n_1 t17_c_1)]) ∧
      Inv y_p y_n y_c t17_p_1 t17_n_1 t17_c_1 wv_1 ∧ mu y_p y_n y_c t17_p_1 t17_n_1 t17_c_1 wv_1 < mu x_p x_n x_c y_p y_n y_c wv) ∧
    ((decide ((0 : Int) < ((y_n : Nat) : Int))) = false →
      R (.slice x_p x_n x_c) wv)
theorem spec_l05Gcd_eq (a_p : Option Addr) (a_n : Nat) (a_c : Nat) (b_p : Option Addr) (b_n : Nat) (b_c : Nat) (w : World) (R : Value → World → Prop) : spec_l05Gcd a_p a_n a_c b_p b_n b_c w R = fsem P Tryz.f134 (fun k => cond (Nat.beq k 4) [(5, .one .slice), (6, .one .slice)] ([])) [(.slice a_p a_n a_c), (.slice b_p b_n b_c)] R w := by kernel_rfl
theorem spec_l05Gcd_ret {a_p : Option Addr} {a_n : Nat} {a_c : Nat} {b_p : Option Addr} {b_n : Nat} {b_c : Nat} {w : World} {R : Value → World → Prop} (h : spec_l05Gcd a_p a_n a_c b_p b_n b_c w R) : Ret P 134 [(.slice a_p a_n a_c), (.slice b_p b_n b_c)] w R :=
  Ret.of_fsem Tryz.func134 rfl (Eq.mp (spec_l05Gcd_eq a_p a_n a_c b_p b_n b_c w R) h)
def spec_l03Div_j0 (wv_4 : World) (Inv : Option Addr → Nat → Nat → Int → World → Prop) (mu : Option Addr → Nat → Nat → Int → World → Nat) (rest_p : Option Addr) (rest_n : Nat) (rest_c : Nat) (i : Int) (rest_p_1 : Option Addr) (rest_n_1 : Nat) (rest_c_1 : Nat) (W : World) (R : Value → World → Prop) : Prop :=
  ∃ t36 : Int, t36 = IntKind.wrap .i64 (i - 1) ∧ Inv rest_p_1 rest_n_1 rest_c_1 t36 W ∧ mu rest_p_1 rest_n_1 rest_c_1 t36 W < mu rest_p rest_n rest_c i wv_4
def spec_l03Div (a_p : Option Addr) (a_n : Nat) (a_c : Nat) (b_p : Option Addr) (b_n : Nat) (b_c : Nat) (w : World) (R : Value → World → Prop) : Prop :=
  ((decide ((((b_n : Nat) : Int) : Int) = 1)) = true →
    (0 ≤ (0 : Int) ∧ (0 : Int) < (b_n : Nat)) ∧ ptrS b_p fun ad => ∃ (t19 : Int), Loads P 3 (ad.add (0 * 1)) (.int .i64 t19) w ∧ Calls P 158 ⟨[(.slice a_p a_n a_c), (.int .i64 t19)]⟩ w fun e wv =>
    ∃ (t20_p : Option Addr) (t20_n : Nat) (t20_c : Nat) (t20 : Int), e = .returned (.tuple #[(.slice t20_p t20_n t20_c), (.int .i64 t20)]) ∧
    Calls P 105 ⟨[(.int .i64 t20)]⟩ wv fun e_1 wv_1 =>
    ∃ (t25_p : Option Addr) (t25_n : Nat) (t25_c : Nat), e_1 = .returned (.slice t25_p t25_n t25_c) ∧
    R (.tuple #[(.slice t20_p t20_n t20_c), (.slice t25_p t25_n t25_c)]) wv_1) ∧
  ((decide ((((b_n : Nat) : Int) : Int) = 1)) = false →
    (0 ≤ (((a_n : Nat) : Int) : Int) ∧ (((a_n : Nat) : Int) : Int) ≤ ((a_n : Nat) : Int) ∧ ((8 : Nat) : Int) * ((a_n : Nat) : Int) ≤ 281474976710656) ∧
    ∀ (r : Nat) (wv_2 : World), New w (.cells ⟨zeroRow (.int .i64 0) (a_n * 1)⟩ 3 (0, 0)) r wv_2 →
    ∀ (r_1 : Nat) (wv_3 : World), New wv_2 (.cells ⟨[]⟩ 3 (0, 0)) r_1 wv_3 →
    ∃ t32 : Int, t32 = IntKind.wrap .i64 (((a_n : Nat) : Int) - 1) ∧ ∃ (Inv : Option Addr → Nat → Nat → Int → World → Prop) (mu : Option Addr → Nat → Nat → Int → World → Nat), Inv (some ⟨r_1, 0, none⟩) 0 0 t32 wv_3 ∧
    ∀ (junk : Fr) (wv_4 : World) (rest_p : Option Addr) (rest_n : Nat) (rest_c : Nat) (i : Int), Inv rest_p rest_n rest_c i wv_4 →
      ((decide ((0 : Int) ≤ i)) = true →
        (0 ≤ (i : Int) ∧ (i : Int) < (a_n : Nat)) ∧ ptrS a_p fun ad_1 => ∃ (t40 : Int), Loads P 3 (ad_1.add (i.toNat * 1)) (.int .i64 t40) wv_4 ∧ ∀ (r_2 : Nat) (wv_5 : World), New wv_4 (.cells ⟨[(.int .i64 t40)]⟩ 3 (0, 0)) r_2 wv_5 →
        ∃ (t43_p : Option Addr) (t43_n : Nat) (t43_c : Nat) (wv_6 : World), Appends P [22, 22] [(.slice (some ⟨r_2, 0, none⟩) 1 1), (.slice rest_p rest_n rest_c)] (.slice t43_p t43_n t43_c) wv_5 wv_6 ∧
        Calls P 133 ⟨[(.slice t43_p t43_n t43_c)]⟩ wv_6 fun e_2 wv_7 =>
        ∃ (t44_p : Option Addr) (t44_n : Nat) (t44_c : Nat), e_2 = .returned (.slice t44_p t44_n t44_c) ∧
        Calls P 115 ⟨[(.slice t44_p t44_n t44_c), (.slice b_p b_n b_c)]⟩ wv_7 fun e_3 wv_8 =>
        ∃ (t47 : Int), e_3 = .returned (.int .i64 t47) ∧
        ((decide ((t47 : Int) < 0)) = true →
          spec_l03Div_j0 wv_4 Inv mu rest_p rest_n rest_c i t44_p t44_n t44_c wv_8 R) ∧
        ((decide ((t47 : Int) < 0)) = false →
          Calls P 159 ⟨[(.slice t44_p t44_n t44_c), (.slice b_p b_n b_c)]⟩ wv_8 fun e_4 wv_9 =>
          ∃ (t51 : Int), e_4 = .returned (.int .i64 t51) ∧
          (0 ≤ (i : Int) ∧ (i : Int) < (a_n : Nat)) ∧ ∃ wv_10, Stores P 3 ((⟨r, 0, none⟩ : Addr).add (i.toNat * 1)) (.int .i64 t51) wv_9 wv_10 ∧
          Calls P 105 ⟨[(.int .i64 t51)]⟩ wv_10 fun e_5 wv_11 =>
          ∃ (t59_p : Option Addr) (t59_n : Nat) (t59_c : Nat), e_5 = .returned (.slice t59_p t59_n t59_c) ∧
          Calls P 87 ⟨[(.slice b_p b_n b_c), (.slice t59_p t59_n t59_c)]⟩ wv_11 fun e_6 wv_12 =>
          ∃ (t60_p : Option Addr) (t60_n : Nat) (t60_c : Nat), e_6 = .returned (.slice t60_p t60_n t60_c) ∧
          Calls P 151 ⟨[(.slice t44_p t44_n t44_c), (.slice t60_p t60_n t60_c)]⟩ wv_12 fun e_7 wv_13 =>
          ∃ (t61_p : Option Addr) (t61_n : Nat) (t61_c : Nat), e_7 = .returned (.slice t61_p t61_n t61_c) ∧
          spec_l03Div_j0 wv_4 Inv mu rest_p rest_n rest_c i t61_p t61_n t61_c wv_13 R)) ∧
      ((decide ((0 : Int) ≤ i)) = false →
        Calls P 133 ⟨[(.slice (some ⟨r, 0, none⟩) a_n a_n)]⟩ wv_4 fun e_8 wv_14 =>
        ∃ (t63_p : Option Addr) (t63_n : Nat) (t63_c : Nat), e_8 = .returned (.slice t63_p t63_n t63_c) ∧
        R (.tuple #[(.slice t63_p t63_n t63_c), (.slice rest_p rest_n rest_c)]) wv_14))
theorem spec_l03Div_eq (a_p : Option Addr) (a_n : Nat) (a_c : Nat) (b_p : Option Addr) (b_n : Nat) (b_c : Nat) (w : World) (R : Value → World → Prop) : spec_l03Div a_p a_n a_c b_p b_n b_c w R = fsem P Tryz.f135 (fun k => cond (Nat.beq k 8) [(9, .one .slice), (10, .one (.int .i64))] ([])) [(.slice a_p a_n a_c), (.slice b_p b_n b_c)] R w := by kernel_rfl
theorem spec_l03Div_ret {a_p : Option Addr} {a_n : Nat} {a_c : Nat} {b_p : Option Addr} {b_n : Nat} {b_c : Nat} {w : World} {R : Value → World → Prop} (h : spec_l03Div a_p a_n a_c b_p b_n b_c w R) : Ret P 135 [(.slice a_p a_n a_c), (.slice b_p b_n b_c)] w R :=
  Ret.of_fsem Tryz.func135 rfl (Eq.mp (spec_l03Div_eq a_p a_n a_c b_p b_n b_c w R) h)
def spec_NatTen (k : Int) (w : World) (R : Value → World → Prop) : Prop :=
  Calls P 130 ⟨[(.int .i64 k), (.int .i64 0), (.int .i64 449)]⟩ w fun e wv =>
  ∃ (t7 : Bool), e = .returned (.bool t7) ∧
  ((!t7) = true →
    R (.slice none 0 0) wv) ∧
  ((!t7) = false →
    (9 : Int) ≠ 0 ∧ ∃ t10 : Int, t10 = IntKind.wrap .i64 (Int.tdiv k 9) ∧ (0 ≤ (t10 : Int) ∧ (t10 : Int) ≤ t10 ∧ ((8 : Nat) : Int) * t10 ≤ 281474976710656) ∧
    ∀ (r : Nat) (wv_1 : World), New wv (.cells ⟨zeroRow (.int .i64 0) (t10.toNat * 1)⟩ 3 (0, 0)) r wv_1 →
    ∃ (Inv : Int → Int → World → Prop) (mu : Int → Int → World → Nat), Inv 1 0 wv_1 ∧
    ∀ (junk : Fr) (wv_2 : World) (f : Int) (i : Int), Inv f i wv_2 →
      (9 : Int) ≠ 0 ∧ ∃ t14 : Int, t14 = Int.tmod k 9 ∧ ((decide ((i : Int) < t14)) = true →
        ∃ t19 : Int, t19 = IntKind.wrap .i64 (f * 10) ∧ ∃ t17 : Int, t17 = IntKind.wrap .i64 (i + 1) ∧ Inv t19 t17 wv_2 ∧ mu t19 t17 wv_2 < mu f i wv_2) ∧
      ((decide ((i : Int) < t14)) = false →
        ∀ (r_1 : Nat) (wv_3 : World), New wv_2 (.cells ⟨[(.int .i64 f)]⟩ 3 (0, 0)) r_1 wv_3 →
        ∃ (t23_p : Option Addr) (t23_n : Nat) (t23_c : Nat) (wv_4 : World), Appends P [22, 22] [(.slice (some ⟨r, 0, none⟩) t10.toNat t10.toNat), (.slice (some ⟨r_1, 0, none⟩) 1 1)] (.slice t23_p t23_n t23_c) wv_3 wv_4 ∧
        R (.slice t23_p t23_n t23_c) wv_4))
theorem spec_NatTen_eq (k : Int) (w : World) (R : Value → World → Prop) : spec_NatTen k w R = fsem P Tryz.f136 (fun k => cond (Nat.beq k 7) [(4, .one (.int .i64)), (5, .one (.int .i64))] ([])) [(.int .i64 k)] R w := by kernel_rfl
theorem spec_NatTen_ret {k : Int} {w : World} {R : Value → World → Prop} (h : spec_NatTen k w R) : Ret P 136 [(.int .i64 k)] w R :=
  Ret.of_fsem Tryz.func136 rfl (Eq.mp (spec_NatTen_eq k w R) h)
def spec_RatRound (r0 : Bool) (r1_p : Option Addr) (r1_n : Nat) (r1_c : Nat) (r2_p : Option Addr) (r2_n : Nat) (r2_c : Nat) (m : Int) (w : World) (R : Value → World → Prop) : Prop :=
  ∀ (r : Nat) (wv : World), New w (.cells ⟨[(.bool r0), (.slice r1_p r1_n r1_c), (.slice r2_p r2_n r2_c)]⟩ 35 (0, 0)) r wv →
  ∀ (r_1 : Nat) (wv_1 : World), New wv (.cells ⟨[(.bool false), (.slice none 0 0)]⟩ 31 (0, 0)) r_1 wv_1 →
  ∃ (t60 : Bool) (t61_p : Option Addr) (t61_n : Nat) (t61_c : Nat) (t62_p : Option Addr) (t62_n : Nat) (t62_c : Nat), Loads P 35 ⟨r, 0, none⟩ (.agg #[(.bool t60), (.slice t61_p t61_n t61_c), (.slice t62_p t62_n t62_c)]) wv_1 ∧ Calls P 85 ⟨[(.agg #[(.bool t60), (.slice t61_p t61_n t61_c), (.slice t62_p t62_n t62_c)])]⟩ wv_1 fun e wv_2 =>
  ∃ (t7 : Bool), e = .returned (.bool t7) ∧
  ((!t7) = true →
    (true = true →
      ∃ wv_3, Stores P 31 ⟨r_1, 0, none⟩ (.agg #[(.bool false), (.slice none 0 0)]) wv_2 wv_3 ∧
      ∃ (r0_1 : Bool) (r1_p_1 : Option Addr) (r1_n_1 : Nat) (r1_c_1 : Nat), Loads P 31 ⟨r_1, 0, none⟩ (.agg #[(.bool r0_1), (.slice r1_p_1 r1_n_1 r1_c_1)]) wv_3 ∧ R (.tuple #[(.agg #[(.bool r0_1), (.slice r1_p_1 r1_n_1 r1_c_1)]), (.bool false)]) wv_3) ∧
    (true = false →
      ∃ (t150 : Bool) (t151_p : Option Addr) (t151_n : Nat) (t151_c : Nat) (t152_p : Option Addr) (t152_n : Nat) (t152_c : Nat), Loads P 35 ⟨r, 0, none⟩ (.agg #[(.bool t150), (.slice t151_p t151_n t151_c), (.slice t152_p t152_n t152_c)]) wv_2 ∧ Calls P 161 ⟨[(.agg #[(.bool t150), (.slice t151_p t151_n t151_c), (.slice t152_p t152_n t152_c)]), (.int .i64 m)]⟩ wv_2 fun e_1 wv_4 =>
      ∃ (t170 : Bool) (t171_p : Option Addr) (t171_n : Nat) (t171_c : Nat), e_1 = .returned (.agg #[(.bool t170), (.slice t171_p t171_n t171_c)]) ∧
      ∃ wv_5, Stores P 31 ⟨r_1, 0, none⟩ (.agg #[(.bool t170), (.slice t171_p t171_n t171_c)]) wv_4 wv_5 ∧
      ∃ (r0_2 : Bool) (r1_p_2 : Option Addr) (r1_n_2 : Nat) (r1_c_2 : Nat), Loads P 31 ⟨r_1, 0, none⟩ (.agg #[(.bool r0_2), (.slice r1_p_2 r1_n_2 r1_c_2)]) wv_5 ∧ R (.tuple #[(.agg #[(.bool r0_2), (.slice r1_p_2 r1_n_2 r1_c_2)]), (.bool true)]) wv_5)) ∧
  ((!t7) = false →
    Calls P 160 ⟨[(.int .i64 m)]⟩ wv_2 fun e_2 wv_6 =>
    ∃ (t11 : Bool), e_2 = .returned (.bool t11) ∧
    ((!t11) = true →
      ∃ wv_7, Stores P 31 ⟨r_1, 0, none⟩ (.agg #[(.bool false), (.slice none 0 0)]) wv_6 wv_7 ∧
      ∃ (r0_3 : Bool) (r1_p_3 : Option Addr) (r1_n_3 : Nat) (r1_c_3 : Nat), Loads P 31 ⟨r_1, 0, none⟩ (.agg #[(.bool r0_3), (.slice r1_p_3 r1_n_3 r1_c_3)]) wv_7 ∧ R (.tuple #[(.agg #[(.bool r0_3), (.slice r1_p_3 r1_n_3 r1_c_3)]), (.bool false)]) wv_7) ∧
    ((!t11) = false →
      ∃ (t150_1 : Bool) (t151_p_1 : Option Addr) (t151_n_1 : Nat) (t151_c_1 : Nat) (t152_p_1 : Option Addr) (t152_n_1 : Nat) (t152_c_1 : Nat), Loads P 35 ⟨r, 0, none⟩ (.agg #[(.bool t150_1), (.slice t151_p_1 t151_n_1 t151_c_1), (.slice t152_p_1 t152_n_1 t152_c_1)]) wv_6 ∧ Calls P 161 ⟨[(.agg #[(.bool t150_1), (.slice t151_p_1 t151_n_1 t151_c_1), (.slice t152_p_1 t152_n_1 t152_c_1)]), (.int .i64 m)]⟩ wv_6 fun e_3 wv_8 =>
      ∃ (t170_1 : Bool) (t171_p_1 : Option Addr) (t171_n_1 : Nat) (t171_c_1 : Nat), e_3 = .returned (.agg #[(.bool t170_1), (.slice t171_p_1 t171_n_1 t171_c_1)]) ∧
      ∃ wv_9, Stores P 31 ⟨r_1, 0, none⟩ (.agg #[(.bool t170_1), (.slice t171_p_1 t171_n_1 t171_c_1)]) wv_8 wv_9 ∧
      ∃ (r0_4 : Bool) (r1_p_4 : Option Addr) (r1_n_4 : Nat) (r1_c_4 : Nat), Loads P 31 ⟨r_1, 0, none⟩ (.agg #[(.bool r0_4), (.slice r1_p_4 r1_n_4 r1_c_4)]) wv_9 ∧ R (.tuple #[(.agg #[(.bool r0_4), (.slice r1_p_4 r1_n_4 r1_c_4)]), (.bool true)]) wv_9))
theorem spec_RatRound_eq (r0 : Bool) (r1_p : Option Addr) (r1_n : Nat) (r1_c : Nat) (r2_p : Option Addr) (r2_n : Nat) (r2_c : Nat) (m : Int) (w : World) (R : Value → World → Prop) : spec_RatRound r0 r1_p r1_n r1_c r2_p r2_n r2_c m w R = fsem P Tryz.f137 (fun k => []) [(.agg #[(.bool r0), (.slice r1_p r1_n r1_c), (.slice r2_p r2_n r2_c)]), (.int .i64 m)] R w := by kernel_rfl
theorem spec_RatRound_ret {r0 : Bool} {r1_p : Option Addr} {r1_n : Nat} {r1_c : Nat} {r2_p : Option Addr} {r2_n : Nat} {r2_c : Nat} {m : Int} {w : World} {R : Value → World → Prop} (h : spec_RatRound r0 r1_p r1_n r1_c r2_p r2_n r2_c m w R) : Ret P 137 [(.agg #[(.bool r0), (.slice r1_p r1_n r1_c), (.slice r2_p r2_n r2_c)]), (.int .i64 m)] w R :=
  Ret.of_fsem Tryz.func137 rfl (Eq.mp (spec_RatRound_eq r0 r1_p r1_n r1_c r2_p r2_n r2_c m w R) h)
def spec_RatSub (r0 : Bool) (r1_p : Option Addr) (r1_n : Nat) (r1_c : Nat) (r2_p : Option Addr) (r2_n : Nat) (r2_c : Nat) (s0 : Bool) (s1_p : Option Addr) (s1_n : Nat) (s1_c : Nat) (s2_p : Option Addr) (s2_n : Nat) (s2_c : Nat) (w : World) (R : Value → World → Prop) : Prop :=
  ∀ (r : Nat) (wv : World), New w (.cells ⟨[(.bool r0), (.slice r1_p r1_n r1_c), (.slice r2_p r2_n r2_c)]⟩ 35 (0, 0)) r wv →
  ∀ (r_1 : Nat) (wv_1 : World), New wv (.cells ⟨[(.bool s0), (.slice s1_p s1_n s1_c), (.slice s2_p s2_n s2_c)]⟩ 35 (0, 0)) r_1 wv_1 →
  ∀ (r_2 : Nat) (wv_2 : World), New wv_1 (.cells ⟨[(.bool false), (.slice none 0 0), (.slice none 0 0)]⟩ 35 (0, 0)) r_2 wv_2 →
  ∃ (t90 : Bool) (t91_p : Option Addr) (t91_n : Nat) (t91_c : Nat) (t92_p : Option Addr) (t92_n : Nat) (t92_c : Nat), Loads P 35 ⟨r_1, 0, none⟩ (.agg #[(.bool t90), (.slice t91_p t91_n t91_c), (.slice t92_p t92_n t92_c)]) wv_2 ∧ Calls P 162 ⟨[(.agg #[(.bool t90), (.slice t91_p t91_n t91_c), (.slice t92_p t92_n t92_c)])]⟩ wv_2 fun e wv_3 =>
  ∃ (t100 : Bool) (t101_p : Option Addr) (t101_n : Nat) (t101_c : Nat) (t102_p : Option Addr) (t102_n : Nat) (t102_c : Nat) (t10 : Bool), e = .returned (.tuple #[(.agg #[(.bool t100), (.slice t101_p t101_n t101_c), (.slice t102_p t102_n t102_c)]), (.bool t10)]) ∧
  ∀ (r_3 : Nat) (wv_4 : World), New wv_3 (.cells ⟨[(.bool false), (.slice none 0 0), (.slice none 0 0)]⟩ 35 (0, 0)) r_3 wv_4 →
  ∃ wv_5, Stores P 35 ⟨r_3, 0, none⟩ (.agg #[(.bool t100), (.slice t101_p t101_n t101_c), (.slice t102_p t102_n t102_c)]) wv_4 wv_5 ∧
  ((!t10) = true →
    ∃ wv_6, Stores P 35 ⟨r_2, 0, none⟩ (.agg #[(.bool false), (.slice none 0 0), (.slice none 0 0)]) wv_5 wv_6 ∧
    ∃ (r0_1 : Bool) (r1_p_1 : Option Addr) (r1_n_1 : Nat) (r1_c_1 : Nat) (r2_p_1 : Option Addr) (r2_n_1 : Nat) (r2_c_1 : Nat), Loads P 35 ⟨r_2, 0, none⟩ (.agg #[(.bool r0_1), (.slice r1_p_1 r1_n_1 r1_c_1), (.slice r2_p_1 r2_n_1 r2_c_1)]) wv_6 ∧ R (.tuple #[(.agg #[(.bool r0_1), (.slice r1_p_1 r1_n_1 r1_c_1), (.slice r2_p_1 r2_n_1 r2_c_1)]), (.bool false)]) wv_6) ∧
  ((!t10) = false →
    ∃ (t160 : Bool) (t161_p : Option Addr) (t161_n : Nat) (t161_c : Nat) (t162_p : Option Addr) (t162_n : Nat) (t162_c : Nat), Loads P 35 ⟨r, 0, none⟩ (.agg #[(.bool t160), (.slice t161_p t161_n t161_c), (.slice t162_p t162_n t162_c)]) wv_5 ∧ ∃ (t170 : Bool) (t171_p : Option Addr) (t171_n : Nat) (t171_c : Nat) (t172_p : Option Addr) (t172_n : Nat) (t172_c : Nat), Loads P 35 ⟨r_3, 0, none⟩ (.agg #[(.bool t170), (.slice t171_p t171_n t171_c), (.slice t172_p t172_n t172_c)]) wv_5 ∧ Calls P 59 ⟨[(.agg #[(.bool t160), (.slice t161_p t161_n t161_c), (.slice t162_p t162_n t162_c)]), (.agg #[(.bool t170), (.slice t171_p t171_n t171_c), (.slice t172_p t172_n t172_c)])]⟩ wv_5 fun e_1 wv_7 =>
    ∃ (t180 : Bool) (t181_p : Option Addr) (t181_n : Nat) (t181_c : Nat) (t182_p : Option Addr) (t182_n : Nat) (t182_c : Nat) (t18 : Bool), e_1 = .returned (.tuple #[(.agg #[(.bool t180), (.slice t181_p t181_n t181_c), (.slice t182_p t182_n t182_c)]), (.bool t18)]) ∧
    ∃ wv_8, Stores P 35 ⟨r_2, 0, none⟩ (.agg #[(.bool t180), (.slice t181_p t181_n t181_c), (.slice t182_p t182_n t182_c)]) wv_7 wv_8 ∧
    ∃ (r0_2 : Bool) (r1_p_2 : Option Addr) (r1_n_2 : Nat) (r1_c_2 : Nat) (r2_p_2 : Option Addr) (r2_n_2 : Nat) (r2_c_2 : Nat), Loads P 35 ⟨r_2, 0, none⟩ (.agg #[(.bool r0_2), (.slice r1_p_2 r1_n_2 r1_c_2), (.slice r2_p_2 r2_n_2 r2_c_2)]) wv_8 ∧ R (.tuple #[(.agg #[(.bool r0_2), (.slice r1_p_2 r1_n_2 r1_c_2), (.slice r2_p_2 r2_n_2 r2_c_2)]), (.bool t18)]) wv_8)
theorem spec_RatSub_eq (r0 : Bool) (r1_p : Option Addr) (r1_n : Nat) (r1_c : Nat) (r2_p : Option Addr) (r2_n : Nat) (r2_c : Nat) (s0 : Bool) (s1_p : Option Addr) (s1_n : Nat) (s1_c : Nat) (s2_p : Option Addr) (s2_n : Nat) (s2_c : Nat) (w : World) (R : Value → World → Prop) : spec_RatSub r0 r1_p r1_n r1_c r2_p r2_n r2_c s0 s1_p s1_n s1_c s2_p s2_n s2_c w R = fsem P Tryz.f138 (fun k => []) [(.agg #[(.bool r0), (.slice r1_p r1_n r1_c), (.slice r2_p r2_n r2_c)]), (.agg #[(.bool s0), (.slice s1_p s1_n s1_c), (.slice s2_p s2_n s2_c)])] R w := by kernel_rfl
theorem spec_RatSub_ret {r0 : Bool} {r1_p : Option Addr} {r1_n : Nat} {r1_c : Nat} {r2_p : Option Addr} {r2_n : Nat} {r2_c : Nat} {s0 : Bool} {s1_p : Option Addr} {s1_n : Nat} {s1_c : Nat} {s2_p : Option Addr} {s2_n : Nat} {s2_c : Nat} {w : World} {R : Value → World → Prop} (h : spec_RatSub r0 r1_p r1_n r1_c r2_p r2_n r2_c s0 s1_p s1_n s1_c s2_p s2_n s2_c w R) : Ret P 138 [(.agg #[(.bool r0), (.slice r1_p r1_n r1_c), (.slice r2_p r2_n r2_c)]), (.agg #[(.bool s0), (.slice s1_p s1_n s1_c), (.slice s2_p s2_n s2_c)])] w R :=
  Ret.of_fsem Tryz.func138 rfl (Eq.mp (spec_RatSub_eq r0 r1_p r1_n r1_c r2_p r2_n r2_c s0 s1_p s1_n s1_c s2_p s2_n s2_c w R) h)
def impl_currencyOf (code : ByteArray) (w : World) (R : Value → World → Prop) : Prop :=
  ∀ (r : Nat) (wv : World), New w (.cells ⟨[(.string ByteArray.empty), (.string ByteArray.empty), (.int .i64 0), (.int .i64 0)]⟩ 133 (0, 0)) r wv →
  ∃ (t6 : Value), Loads P 146 ⟨0, 0, none⟩ t6 wv ∧ ∃ (Inv : Int → World → Prop) (mu : Int → World → Nat), Inv 0 wv ∧
  ∀ (junk : Fr) (wv_1 : World) (t7 : Int), Inv t7 wv_1 →
    ((decide ((t7 : Int) < 20)) = true →
      indexS P 146 t6 (.int .i64 t7) fun (el : Value) => ∀ (r_1 : Nat) (wv_2 : World), New wv_1 (.cells ⟨[(.string ByteArray.empty), (.string ByteArray.empty), (.int .i64 0), (.int .i64 0)]⟩ 133 (0, 0)) r_1 wv_2 →
      ∃ wv_3, Stores P 133 ⟨r_1, 0, none⟩ el wv_2 wv_3 ∧
      ∃ (t11 : ByteArray), Loads P 9 ((⟨r_1, 0, none⟩ : Addr).add 0) (.string t11) wv_3 ∧ ((decide (t11 = code)) = true →
        ∃ (t140 : ByteArray) (t141 : ByteArray) (t142 : Int) (t143 : Int), Loads P 133 ⟨r_1, 0, none⟩ (.agg #[(.string t140), (.string t141), (.int .i64 t142), (.int .i64 t143)]) wv_3 ∧ ∃ wv_4, Stores P 133 ⟨r, 0, none⟩ (.agg #[(.string t140), (.string t141), (.int .i64 t142), (.int .i64 t143)]) wv_3 wv_4 ∧
        ∃ (r0 : ByteArray) (r1 : ByteArray) (r2 : Int) (r3 : Int), Loads P 133 ⟨r, 0, none⟩ (.agg #[(.string r0), (.string r1), (.int .i64 r2), (.int .i64 r3)]) wv_4 ∧ R (.tuple #[(.agg #[(.string r0), (.string r1), (.int .i64 r2), (.int .i64 r3)]), (.bool true)]) wv_4) ∧
      ((decide (t11 = code)) = false →
        ∃ t15 : Int, t15 = IntKind.wrap .i64 (t7 + 1) ∧ Inv t15 wv_3 ∧ mu t15 wv_3 < mu t7 wv_1)) ∧
    ((decide ((t7 : Int) < 20)) = false →
      ∃ wv_5, Stores P 133 ⟨r, 0, none⟩ (.agg #[(.string ByteArray.empty), (.string ByteArray.empty), (.int .i64 0), (.int .i64 0)]) wv_1 wv_5 ∧
      ∃ (r0_1 : ByteArray) (r1_1 : ByteArray) (r2_1 : Int) (r3_1 : Int), Loads P 133 ⟨r, 0, none⟩ (.agg #[(.string r0_1), (.string r1_1), (.int .i64 r2_1), (.int .i64 r3_1)]) wv_5 ∧ R (.tuple #[(.agg #[(.string r0_1), (.string r1_1), (.int .i64 r2_1), (.int .i64 r3_1)]), (.bool false)]) wv_5)
theorem impl_currencyOf_eq (code : ByteArray) (w : World) (R : Value → World → Prop) : impl_currencyOf code w R = fsem P Tryz.f139 (fun k => cond (Nat.beq k 3) [(7, .one (.int .i64))] ([])) [(.string code)] R w := by kernel_rfl
theorem impl_currencyOf_ret {code : ByteArray} {w : World} {R : Value → World → Prop} (h : impl_currencyOf code w R) : Ret P 139 [(.string code)] w R :=
  Ret.of_fsem Tryz.func139 rfl (Eq.mp (impl_currencyOf_eq code w R) h)
def impl_NatOk_j0 (a_p : Option Addr) (a_n : Nat) (W : World) (R : Value → World → Prop) : Prop :=
  ∃ (Inv : Int → World → Prop) (mu : Int → World → Nat), Inv 0 W ∧
  ∀ (junk : Fr) (wv : World) (t24 : Int), Inv t24 wv →
    ((decide ((t24 : Int) < ((a_n : Nat) : Int))) = true →
      (0 ≤ (t24 : Int) ∧ (t24 : Int) < (a_n : Nat)) ∧ ptrS a_p fun ad => ∃ (t27 : Int), Loads P 3 (ad.add (t24.toNat * 1)) (.int .i64 t27) wv ∧ ((decide ((t27 : Int) < 0)) = true →
        (true = true →
          R (.bool false) wv) ∧
        (true = false →
          ∃ t34 : Int, t34 = IntKind.wrap .i64 (t24 + 1) ∧ Inv t34 wv ∧ mu t34 wv < mu t24 wv)) ∧
      ((decide ((t27 : Int) < 0)) = false →
        ((decide ((1000000000 : Int) ≤ t27)) = true →
          R (.bool false) wv) ∧
        ((decide ((1000000000 : Int) ≤ t27)) = false →
          ∃ t34_1 : Int, t34_1 = IntKind.wrap .i64 (t24 + 1) ∧ Inv t34_1 wv ∧ mu t34_1 wv < mu t24 wv))) ∧
    ((decide ((t24 : Int) < ((a_n : Nat) : Int))) = false →
      R (.bool true) wv)
def impl_NatOk (a_p : Option Addr) (a_n : Nat) (a_c : Nat) (w : World) (R : Value → World → Prop) : Prop :=
  ((decide ((50 : Int) < ((a_n : Nat) : Int))) = true →
    (true = true →
      R (.bool false) w) ∧
    (true = false →
      impl_NatOk_j0 a_p a_n w R)) ∧
  ((decide ((50 : Int) < ((a_n : Nat) : Int))) = false →
    ((decide ((0 : Int) < ((a_n : Nat) : Int))) = true →
      ∃ t16 : Int, t16 = IntKind.wrap .i64 (((a_n : Nat) : Int) - 1) ∧ (0 ≤ (t16 : Int) ∧ (t16 : Int) < (a_n : Nat)) ∧ ptrS a_p fun ad_1 => ∃ (t18 : Int), Loads P 3 (ad_1.add (t16.toNat * 1)) (.int .i64 t18) w ∧ ((decide ((t18 : Int) = 0)) = true →
        R (.bool false) w) ∧
      ((decide ((t18 : Int) = 0)) = false →
        impl_NatOk_j0 a_p a_n w R)) ∧
    ((decide ((0 : Int) < ((a_n : Nat) : Int))) = false →
      (false = true →
        R (.bool false) w) ∧
      (false = false →
        impl_NatOk_j0 a_p a_n w R)))
theorem impl_NatOk_eq (a_p : Option Addr) (a_n : Nat) (a_c : Nat) (w : World) (R : Value → World → Prop) : impl_NatOk a_p a_n a_c w R = fsem P Tryz.f140 (fun k => cond (Nat.beq k 5) [(24, .one (.int .i64))] ([])) [(.slice a_p a_n a_c)] R w := by kernel_rfl
theorem impl_NatOk_ret {a_p : Option Addr} {a_n : Nat} {a_c : Nat} {w : World} {R : Value → World → Prop} (h : impl_NatOk a_p a_n a_c w R) : Ret P 140 [(.slice a_p a_n a_c)] w R :=
  Ret.of_fsem Tryz.func140 rfl (Eq.mp (impl_NatOk_eq a_p a_n a_c w R) h)
def impl_isScale (scale : Int) (w : World) (R : Value → World → Prop) : Prop :=
  ((decide ((0 : Int) ≤ scale)) = true →
    R (.bool (decide ((scale : Int) ≤ 30))) w) ∧
  ((decide ((0 : Int) ≤ scale)) = false →
    R (.bool false) w)
theorem impl_isScale_eq (scale : Int) (w : World) (R : Value → World → Prop) : impl_isScale scale w R = fsem P Tryz.f141 (fun k => []) [(.int .i64 scale)] R w := by kernel_rfl
theorem impl_isScale_ret {scale : Int} {w : World} {R : Value → World → Prop} (h : impl_isScale scale w R) : Ret P 141 [(.int .i64 scale)] w R :=
  Ret.of_fsem Tryz.func141 rfl (Eq.mp (impl_isScale_eq scale w R) h)
def impl_scaled (scale : Int) (w : World) (R : Value → World → Prop) : Prop :=
  ∀ (r : Nat) (wv : World), New w (.cells ⟨[(.int .i64 scale)]⟩ 3 (0, 0)) r wv →
  R (.func (.func 163) #[] #[(.pointer (some ⟨r, 0, none⟩))]) wv
theorem impl_scaled_eq (scale : Int) (w : World) (R : Value → World → Prop) : impl_scaled scale w R = fsem P Tryz.f142 (fun k => []) [(.int .i64 scale)] R w := by kernel_rfl
theorem impl_scaled_ret {scale : Int} {w : World} {R : Value → World → Prop} (h : impl_scaled scale w R) : Ret P 142 [(.int .i64 scale)] w R :=
  Ret.of_fsem Tryz.func142 rfl (Eq.mp (impl_scaled_eq scale w R) h)
def impl_RatOk_j0 (r : Nat) (W : World) (R : Value → World → Prop) : Prop :=
  ∃ (t35_p : Option Addr) (t35_n : Nat) (t35_c : Nat), Loads P 22 (((⟨r, 0, none⟩ : Addr).add 0).add 1) (.slice t35_p t35_n t35_c) W ∧ ∃ (t37_p : Option Addr) (t37_n : Nat) (t37_c : Nat), Loads P 22 ((⟨r, 0, none⟩ : Addr).add 2) (.slice t37_p t37_n t37_c) W ∧ Calls P 144 ⟨[(.slice t35_p t35_n t35_c), (.slice t37_p t37_n t37_c)]⟩ W fun e_1 wv_2 =>
  ∃ (t38_p : Option Addr) (t38_n : Nat) (t38_c : Nat), e_1 = .returned (.slice t38_p t38_n t38_c) ∧
  ((decide ((((t38_n : Nat) : Int) : Int) = 1)) = true →
    (0 ≤ (0 : Int) ∧ (0 : Int) < (t38_n : Nat)) ∧ ptrS t38_p fun ad => ∃ (t45 : Int), Loads P 3 (ad.add (0 * 1)) (.int .i64 t45) wv_2 ∧ R (.bool (decide ((t45 : Int) = 1))) wv_2) ∧
  ((decide ((((t38_n : Nat) : Int) : Int) = 1)) = false →
    R (.bool false) wv_2)
def impl_RatOk (r0 : Bool) (r1_p : Option Addr) (r1_n : Nat) (r1_c : Nat) (r2_p : Option Addr) (r2_n : Nat) (r2_c : Nat) (w : World) (R : Value → World → Prop) : Prop :=
  ∀ (r : Nat) (wv : World), New w (.cells ⟨[(.bool r0), (.slice r1_p r1_n r1_c), (.slice r2_p r2_n r2_c)]⟩ 35 (0, 0)) r wv →
  ∃ (t50 : Bool) (t51_p : Option Addr) (t51_n : Nat) (t51_c : Nat), Loads P 31 ((⟨r, 0, none⟩ : Addr).add 0) (.agg #[(.bool t50), (.slice t51_p t51_n t51_c)]) wv ∧ Calls P 94 ⟨[(.agg #[(.bool t50), (.slice t51_p t51_n t51_c)])]⟩ wv fun e wv_1 =>
  ∃ (t6 : Bool), e = .returned (.bool t6) ∧
  ((!t6) = true →
    (true = true →
      (true = true →
        (true = true →
          (true = true →
            R (.bool false) wv_1) ∧
          (true = false →
            impl_RatOk_j0 r wv_1 R)) ∧
        (true = false →
          ∃ (t29_p : Option Addr) (t29_n : Nat) (t29_c : Nat), Loads P 22 (((⟨r, 0, none⟩ : Addr).add 0).add 1) (.slice t29_p t29_n t29_c) wv_1 ∧ ((decide ((18 : Int) < ((t29_n : Nat) : Int))) = true →
            R (.bool false) wv_1) ∧
          ((decide ((18 : Int) < ((t29_n : Nat) : Int))) = false →
            impl_RatOk_j0 r wv_1 R))) ∧
      (true = false →
        ∃ (t22_p : Option Addr) (t22_n : Nat) (t22_c : Nat), Loads P 22 ((⟨r, 0, none⟩ : Addr).add 2) (.slice t22_p t22_n t22_c) wv_1 ∧ ((decide ((18 : Int) < ((t22_n : Nat) : Int))) = true →
          (true = true →
            R (.bool false) wv_1) ∧
          (true = false →
            impl_RatOk_j0 r wv_1 R)) ∧
        ((decide ((18 : Int) < ((t22_n : Nat) : Int))) = false →
          ∃ (t29_p_1 : Option Addr) (t29_n_1 : Nat) (t29_c_1 : Nat), Loads P 22 (((⟨r, 0, none⟩ : Addr).add 0).add 1) (.slice t29_p_1 t29_n_1 t29_c_1) wv_1 ∧ ((decide ((18 : Int) < ((t29_n_1 : Nat) : Int))) = true →
            R (.bool false) wv_1) ∧
          ((decide ((18 : Int) < ((t29_n_1 : Nat) : Int))) = false →
            impl_RatOk_j0 r wv_1 R)))) ∧
    (true = false →
      ∃ (t16_p : Option Addr) (t16_n : Nat) (t16_c : Nat), Loads P 22 ((⟨r, 0, none⟩ : Addr).add 2) (.slice t16_p t16_n t16_c) wv_1 ∧ ((decide ((((t16_n : Nat) : Int) : Int) = 0)) = true →
        (true = true →
          (true = true →
            R (.bool false) wv_1) ∧
          (true = false →
            impl_RatOk_j0 r wv_1 R)) ∧
        (true = false →
          ∃ (t29_p_2 : Option Addr) (t29_n_2 : Nat) (t29_c_2 : Nat), Loads P 22 (((⟨r, 0, none⟩ : Addr).add 0).add 1) (.slice t29_p_2 t29_n_2 t29_c_2) wv_1 ∧ ((decide ((18 : Int) < ((t29_n_2 : Nat) : Int))) = true →
            R (.bool false) wv_1) ∧
          ((decide ((18 : Int) < ((t29_n_2 : Nat) : Int))) = false →
            impl_RatOk_j0 r wv_1 R))) ∧
      ((decide ((((t16_n : Nat) : Int) : Int) = 0)) = false →
        ∃ (t22_p_1 : Option Addr) (t22_n_1 : Nat) (t22_c_1 : Nat), Loads P 22 ((⟨r, 0, none⟩ : Addr).add 2) (.slice t22_p_1 t22_n_1 t22_c_1) wv_1 ∧ ((decide ((18 : Int) < ((t22_n_1 : Nat) : Int))) = true →
          (true = true →
            R (.bool false) wv_1) ∧
          (true = false →
            impl_RatOk_j0 r wv_1 R)) ∧
        ((decide ((18 : Int) < ((t22_n_1 : Nat) : Int))) = false →
          ∃ (t29_p_3 : Option Addr) (t29_n_3 : Nat) (t29_c_3 : Nat), Loads P 22 (((⟨r, 0, none⟩ : Addr).add 0).add 1) (.slice t29_p_3 t29_n_3 t29_c_3) wv_1 ∧ ((decide ((18 : Int) < ((t29_n_3 : Nat) : Int))) = true →
            R (.bool false) wv_1) ∧
          ((decide ((18 : Int) < ((t29_n_3 : Nat) : Int))) = false →
            impl_RatOk_j0 r wv_1 R))))) ∧
  ((!t6) = false →
    ∃ (t10_p : Option Addr) (t10_n : Nat) (t10_c : Nat), Loads P 22 ((⟨r, 0, none⟩ : Addr).add 2) (.slice t10_p t10_n t10_c) wv_1 ∧ Calls P 140 ⟨[(.slice t10_p t10_n t10_c)]⟩ wv_1 fun e_2 wv_3 =>
    ∃ (t11 : Bool), e_2 = .returned (.bool t11) ∧
    ((!t11) = true →
      (true = true →
        (true = true →
          (true = true →
            R (.bool false) wv_3) ∧
          (true = false →
            impl_RatOk_j0 r wv_3 R)) ∧
        (true = false →
          ∃ (t29_p_4 : Option Addr) (t29_n_4 : Nat) (t29_c_4 : Nat), Loads P 22 (((⟨r, 0, none⟩ : Addr).add 0).add 1) (.slice t29_p_4 t29_n_4 t29_c_4) wv_3 ∧ ((decide ((18 : Int) < ((t29_n_4 : Nat) : Int))) = true →
            R (.bool false) wv_3) ∧
          ((decide ((18 : Int) < ((t29_n_4 : Nat) : Int))) = false →
            impl_RatOk_j0 r wv_3 R))) ∧
      (true = false →
        ∃ (t22_p_2 : Option Addr) (t22_n_2 : Nat) (t22_c_2 : Nat), Loads P 22 ((⟨r, 0, none⟩ : Addr).add 2) (.slice t22_p_2 t22_n_2 t22_c_2) wv_3 ∧ ((decide ((18 : Int) < ((t22_n_2 : Nat) : Int))) = true →
          (true = true →
            R (.bool false) wv_3) ∧
          (true = false →
            impl_RatOk_j0 r wv_3 R)) ∧
        ((decide ((18 : Int) < ((t22_n_2 : Nat) : Int))) = false →
          ∃ (t29_p_5 : Option Addr) (t29_n_5 : Nat) (t29_c_5 : Nat), Loads P 22 (((⟨r, 0, none⟩ : Addr).add 0).add 1) (.slice t29_p_5 t29_n_5 t29_c_5) wv_3 ∧ ((decide ((18 : Int) < ((t29_n_5 : Nat) : Int))) = true →
            R (.bool false) wv_3) ∧
          ((decide ((18 : Int) < ((t29_n_5 : Nat) : Int))) = false →
            impl_RatOk_j0 r wv_3 R)))) ∧
    ((!t11) = false →
      ∃ (t16_p_1 : Option Addr) (t16_n_1 : Nat) (t16_c_1 : Nat), Loads P 22 ((⟨r, 0, none⟩ : Addr).add 2) (.slice t16_p_1 t16_n_1 t16_c_1) wv_3 ∧ ((decide ((((t16_n_1 : Nat) : Int) : Int) = 0)) = true →
        (true = true →
          (true = true →
            R (.bool false) wv_3) ∧
          (true = false →
            impl_RatOk_j0 r wv_3 R)) ∧
        (true = false →
          ∃ (t29_p_6 : Option Addr) (t29_n_6 : Nat) (t29_c_6 : Nat), Loads P 22 (((⟨r, 0, none⟩ : Addr).add 0).add 1) (.slice t29_p_6 t29_n_6 t29_c_6) wv_3 ∧ ((decide ((18 : Int) < ((t29_n_6 : Nat) : Int))) = true →
            R (.bool false) wv_3) ∧
          ((decide ((18 : Int) < ((t29_n_6 : Nat) : Int))) = false →
            impl_RatOk_j0 r wv_3 R))) ∧
      ((decide ((((t16_n_1 : Nat) : Int) : Int) = 0)) = false →
        ∃ (t22_p_3 : Option Addr) (t22_n_3 : Nat) (t22_c_3 : Nat), Loads P 22 ((⟨r, 0, none⟩ : Addr).add 2) (.slice t22_p_3 t22_n_3 t22_c_3) wv_3 ∧ ((decide ((18 : Int) < ((t22_n_3 : Nat) : Int))) = true →
          (true = true →
            R (.bool false) wv_3) ∧
          (true = false →
            impl_RatOk_j0 r wv_3 R)) ∧
        ((decide ((18 : Int) < ((t22_n_3 : Nat) : Int))) = false →
          ∃ (t29_p_7 : Option Addr) (t29_n_7 : Nat) (t29_c_7 : Nat), Loads P 22 (((⟨r, 0, none⟩ : Addr).add 0).add 1) (.slice t29_p_7 t29_n_7 t29_c_7) wv_3 ∧ ((decide ((18 : Int) < ((t29_n_7 : Nat) : Int))) = true →
            R (.bool false) wv_3) ∧
          ((decide ((18 : Int) < ((t29_n_7 : Nat) : Int))) = false →
            impl_RatOk_j0 r wv_3 R)))))
theorem impl_RatOk_eq (r0 : Bool) (r1_p : Option Addr) (r1_n : Nat) (r1_c : Nat) (r2_p : Option Addr) (r2_n : Nat) (r2_c : Nat) (w : World) (R : Value → World → Prop) : impl_RatOk r0 r1_p r1_n r1_c r2_p r2_n r2_c w R = fsem P Tryz.f143 (fun k => []) [(.agg #[(.bool r0), (.slice r1_p r1_n r1_c), (.slice r2_p r2_n r2_c)])] R w := by kernel_rfl
theorem impl_RatOk_ret {r0 : Bool} {r1_p : Option Addr} {r1_n : Nat} {r1_c : Nat} {r2_p : Option Addr} {r2_n : Nat} {r2_c : Nat} {w : World} {R : Value → World → Prop} (h : impl_RatOk r0 r1_p r1_n r1_c r2_p r2_n r2_c w R) : Ret P 143 [(.agg #[(.bool r0), (.slice r1_p r1_n r1_c), (.slice r2_p r2_n r2_c)])] w R :=
  Ret.of_fsem Tryz.func143 rfl (Eq.mp (impl_RatOk_eq r0 r1_p r1_n r1_c r2_p r2_n r2_c w R) h)
def impl_natGcd (a_p : Option Addr) (a_n : Nat) (a_c : Nat) (b_p : Option Addr) (b_n : Nat) (b_c : Nat) (w : World) (R : Value → World → Prop) : Prop :=
  ∃ (Inv : Option Addr → Nat → Nat → Option Addr → Nat → Nat → World → Prop) (mu : Option Addr → Nat → Nat → Option Addr → Nat → Nat → World → Nat), Inv a_p a_n a_c b_p b_n b_c w ∧
  ∀ (junk : Fr) (wv : World) (a_p_1 : Option Addr) (a_n_1 : Nat) (a_c_1 : Nat) (b_p_1 : Option Addr) (b_n_1 : Nat) (b_c_1 : Nat), Inv a_p_1 a_n_1 a_c_1 b_p_1 b_n_1 b_c_1 wv →
    ((decide ((0 : Int) < ((b_n_1 : Nat) : Int))) = true →
      Calls P 145 ⟨[(.slice a_p_1 a_n_1 a_c_1), (.slice b_p_1 b_n_1 b_c_1)]⟩ wv fun e wv_1 =>
      ∃ (t13_p : Option Addr) (t13_n : Nat) (t13_c : Nat) (t13_p_1 : Option Addr) (t13_n_1 : Nat) (t13_c_1 : Nat), e = .returned (.tuple #[(.slice t13_p t13_n t13_c), (.slice t13_p_1 t13_n_1 t13_c_1)]) ∧
      Inv b_p_1 b_n_1 b_c_1 t13_p_1 t13_n_1 t13_c_1 wv_1 ∧ mu b_p_1 b_n_1 b_c_1 t13_p_1 t13_n_1 t13_c_1 wv_1 < mu a_p_1 a_n_1 a_c_1 b_p_1 b_n_1 b_c_1 wv) ∧
    ((decide ((0 : Int) < ((b_n_1 : Nat) : Int))) = false →
      Calls P 147 ⟨[(.slice a_p_1 a_n_1 a_c_1)]⟩ wv fun e_1 wv_2 =>
      ∃ (t19_p : Option Addr) (t19_n : Nat) (t19_c : Nat), e_1 = .returned (.slice t19_p t19_n t19_c) ∧
      R (.slice t19_p t19_n t19_c) wv_2)
theorem impl_natGcd_eq (a_p : Option Addr) (a_n : Nat) (a_c : Nat) (b_p : Option Addr) (b_n : Nat) (b_c : Nat) (w : World) (R : Value → World → Prop) : impl_natGcd a_p a_n a_c b_p b_n b_c w R = fsem P Tryz.f144 (fun k => cond (Nat.beq k 2) [(0, .one .slice), (1, .one .slice)] ([])) [(.slice a_p a_n a_c), (.slice b_p b_n b_c)] R w := by kernel_rfl
theorem impl_natGcd_ret {a_p : Option Addr} {a_n : Nat} {a_c : Nat} {b_p : Option Addr} {b_n : Nat} {b_c : Nat} {w : World} {R : Value → World → Prop} (h : impl_natGcd a_p a_n a_c b_p b_n b_c w R) : Ret P 144 [(.slice a_p a_n a_c), (.slice b_p b_n b_c)] w R :=
  Ret.of_fsem Tryz.func144 rfl (Eq.mp (impl_natGcd_eq a_p a_n a_c b_p b_n b_c w R) h)
def impl_natDiv (a_p : Option Addr) (a_n : Nat) (a_c : Nat) (b_p : Option Addr) (b_n : Nat) (b_c : Nat) (w : World) (R : Value → World → Prop) : Prop :=
  Calls P 125 ⟨[(.slice a_p a_n a_c), (.slice b_p b_n b_c)]⟩ w fun e wv =>
  ∃ (t18 : Int), e = .returned (.int .i64 t18) ∧
  ((decide ((t18 : Int) < 0)) = true →
    ∀ (r : Nat) (wv_1 : World), New wv (.cells ⟨[]⟩ 3 (0, 0)) r wv_1 →
    Calls P 147 ⟨[(.slice a_p a_n a_c)]⟩ wv_1 fun e_1 wv_2 =>
    ∃ (t22_p : Option Addr) (t22_n : Nat) (t22_c : Nat), e_1 = .returned (.slice t22_p t22_n t22_c) ∧
    R (.tuple #[(.slice (some ⟨r, 0, none⟩) 0 0), (.slice t22_p t22_n t22_c)]) wv_2) ∧
  ((decide ((t18 : Int) < 0)) = false →
    ((decide ((((b_n : Nat) : Int) : Int) = 1)) = true →
      (0 ≤ (0 : Int) ∧ (0 : Int) < (b_n : Nat)) ∧ ptrS b_p fun ad => ∃ (t30 : Int), Loads P 3 (ad.add (0 * 1)) (.int .i64 t30) wv ∧ Calls P 164 ⟨[(.slice a_p a_n a_c), (.int .i64 t30)]⟩ wv fun e_2 wv_3 =>
      ∃ (t31_p : Option Addr) (t31_n : Nat) (t31_c : Nat) (t31 : Int), e_2 = .returned (.tuple #[(.slice t31_p t31_n t31_c), (.int .i64 t31)]) ∧
      Calls P 126 ⟨[(.int .i64 t31)]⟩ wv_3 fun e_3 wv_4 =>
      ∃ (t36_p : Option Addr) (t36_n : Nat) (t36_c : Nat), e_3 = .returned (.slice t36_p t36_n t36_c) ∧
      R (.tuple #[(.slice t31_p t31_n t31_c), (.slice t36_p t36_n t36_c)]) wv_4) ∧
    ((decide ((((b_n : Nat) : Int) : Int) = 1)) = false →
      ∃ t40 : Int, t40 = IntKind.wrap .i64 (((b_n : Nat) : Int) - 1) ∧ (0 ≤ (t40 : Int) ∧ (t40 : Int) < (b_n : Nat)) ∧ ptrS b_p fun ad_1 => ∃ (t42 : Int), Loads P 3 (ad_1.add (t40.toNat * 1)) (.int .i64 t42) wv ∧ ∃ t43 : Int, t43 = IntKind.wrap .i64 (t42 + 1) ∧ (t43 : Int) ≠ 0 ∧ ∃ t44 : Int, t44 = IntKind.wrap .i64 (Int.tdiv 1000000000 t43) ∧ ∀ (r_1 : Nat) (wv_5 : World), New wv (.cells ⟨[(.int .i64 t44)]⟩ 3 (0, 0)) r_1 wv_5 →
      Calls P 100 ⟨[(.slice a_p a_n a_c), (.slice (some ⟨r_1, 0, none⟩) 1 1)]⟩ wv_5 fun e_4 wv_6 =>
      ∃ (t48_p : Option Addr) (t48_n : Nat) (t48_c : Nat), e_4 = .returned (.slice t48_p t48_n t48_c) ∧
      ∀ (r_2 : Nat) (wv_7 : World), New wv_6 (.cells ⟨[(.int .i64 t44)]⟩ 3 (0, 0)) r_2 wv_7 →
      Calls P 100 ⟨[(.slice b_p b_n b_c), (.slice (some ⟨r_2, 0, none⟩) 1 1)]⟩ wv_7 fun e_5 wv_8 =>
      ∃ (t52_p : Option Addr) (t52_n : Nat) (t52_c : Nat), e_5 = .returned (.slice t52_p t52_n t52_c) ∧
      ∃ (Inv : Option Addr → Nat → Nat → World → Prop) (mu : Option Addr → Nat → Nat → World → Nat), Inv t48_p t48_n t48_c wv_8 ∧
      ∀ (junk : Fr) (wv_9 : World) (u_p : Option Addr) (u_n : Nat) (u_c : Nat), Inv u_p u_n u_c wv_9 →
        ((decide ((((u_n : Nat) : Int) : Int) ≤ ((a_n : Nat) : Int))) = true →
          ∀ (r_3 : Nat) (wv_10 : World), New wv_9 (.cells ⟨[(.int .i64 0)]⟩ 3 (0, 0)) r_3 wv_10 →
          ∃ (t60_p : Option Addr) (t60_n : Nat) (t60_c : Nat) (wv_11 : World), Appends P [22, 22] [(.slice u_p u_n u_c), (.slice (some ⟨r_3, 0, none⟩) 1 1)] (.slice t60_p t60_n t60_c) wv_10 wv_11 ∧
          Inv t60_p t60_n t60_c wv_11 ∧ mu t60_p t60_n t60_c wv_11 < mu u_p u_n u_c wv_9) ∧
        ((decide ((((u_n : Nat) : Int) : Int) ≤ ((a_n : Nat) : Int))) = false →
          ∃ t66 : Int, t66 = IntKind.wrap .i64 (((u_n : Nat) : Int) - ((t52_n : Nat) : Int)) ∧ (0 ≤ (t66 : Int) ∧ (t66 : Int) ≤ t66 ∧ ((8 : Nat) : Int) * t66 ≤ 281474976710656) ∧
          ∀ (r_4 : Nat) (wv_12 : World), New wv_9 (.cells ⟨zeroRow (.int .i64 0) (t66.toNat * 1)⟩ 3 (0, 0)) r_4 wv_12 →
          ∃ t70 : Int, t70 = IntKind.wrap .i64 (((t66.toNat : Nat) : Int) - 1) ∧ ∃ (Inv_1 : Int → World → Prop) (mu_1 : Int → World → Nat), Inv_1 t70 wv_12 ∧
          ∀ (junk_1 : Fr) (wv_13 : World) (j : Int), Inv_1 j wv_13 →
            ((decide ((0 : Int) ≤ j)) = true →
              ∃ t81 : Int, t81 = IntKind.wrap .i64 (j + ((t52_n : Nat) : Int)) ∧ ∃ t82 : Int, t82 = IntKind.wrap .i64 (t81 + 1) ∧ (0 ≤ (t82 : Int) ∧ (t82 : Int) ≤ (u_c : Nat)) ∧ (0 ≤ (j : Int) ∧ (j : Int) ≤ (t82.toNat : Nat)) ∧ Calls P 165 ⟨[(.slice (sub u_p j.toNat u_c 1) (t82.toNat - j.toNat) (u_c - j.toNat)), (.slice t52_p t52_n t52_c)]⟩ wv_13 fun e_6 wv_14 =>
              ∃ (t85 : Int), e_6 = .returned (.int .i64 t85) ∧
              (0 ≤ (j : Int) ∧ (j : Int) < (t66.toNat : Nat)) ∧ ∃ wv_15, Stores P 3 ((⟨r_4, 0, none⟩ : Addr).add (j.toNat * 1)) (.int .i64 t85) wv_14 wv_15 ∧
              ∃ t74 : Int, t74 = IntKind.wrap .i64 (j - 1) ∧ Inv_1 t74 wv_15 ∧ mu_1 t74 wv_15 < mu_1 j wv_13) ∧
            ((decide ((0 : Int) ≤ j)) = false →
              Calls P 146 ⟨[(.slice u_p u_n u_c)]⟩ wv_13 fun e_7 wv_16 =>
              ∃ (t89_p : Option Addr) (t89_n : Nat) (t89_c : Nat), e_7 = .returned (.slice t89_p t89_n t89_c) ∧
              Calls P 164 ⟨[(.slice t89_p t89_n t89_c), (.int .i64 t44)]⟩ wv_16 fun e_8 wv_17 =>
              ∃ (t91_p : Option Addr) (t91_n : Nat) (t91_c : Nat) (t91 : Int), e_8 = .returned (.tuple #[(.slice t91_p t91_n t91_c), (.int .i64 t91)]) ∧
              Calls P 146 ⟨[(.slice (some ⟨r_4, 0, none⟩) t66.toNat t66.toNat)]⟩ wv_17 fun e_9 wv_18 =>
              ∃ (t95_p : Option Addr) (t95_n : Nat) (t95_c : Nat), e_9 = .returned (.slice t95_p t95_n t95_c) ∧
              R (.tuple #[(.slice t95_p t95_n t95_c), (.slice t91_p t91_n t91_c)]) wv_18))))
theorem impl_natDiv_eq (a_p : Option Addr) (a_n : Nat) (a_c : Nat) (b_p : Option Addr) (b_n : Nat) (b_c : Nat) (w : World) (R : Value → World → Prop) : impl_natDiv a_p a_n a_c b_p b_n b_c w R = fsem P Tryz.f145 (fun k => cond (Nat.beq k 10) [(9, .one .slice)] (cond (Nat.beq k 15) [(13, .one (.int .i64))] ([]))) [(.slice a_p a_n a_c), (.slice b_p b_n b_c)] R w := by kernel_rfl
theorem impl_natDiv_ret {a_p : Option Addr} {a_n : Nat} {a_c : Nat} {b_p : Option Addr} {b_n : Nat} {b_c : Nat} {w : World} {R : Value → World → Prop} (h : impl_natDiv a_p a_n a_c b_p b_n b_c w R) : Ret P 145 [(.slice a_p a_n a_c), (.slice b_p b_n b_c)] w R :=
  Ret.of_fsem Tryz.func145 rfl (Eq.mp (impl_natDiv_eq a_p a_n a_c b_p b_n b_c w R) h)
def impl_trim (a_p : Option Addr) (a_n : Nat) (a_c : Nat) (w : World) (R : Value → World → Prop) : Prop :=
  ∃ (Inv : Option Addr → Nat → Nat → World → Prop) (mu : Option Addr → Nat → Nat → World → Nat), Inv a_p a_n a_c w ∧
  ∀ (junk : Fr) (wv : World) (a_p_1 : Option Addr) (a_n_1 : Nat) (a_c_1 : Nat), Inv a_p_1 a_n_1 a_c_1 wv →
    ((decide ((0 : Int) < ((a_n_1 : Nat) : Int))) = true →
      ∃ t10 : Int, t10 = IntKind.wrap .i64 (((a_n_1 : Nat) : Int) - 1) ∧ (0 ≤ (t10 : Int) ∧ (t10 : Int) < (a_n_1 : Nat)) ∧ ptrS a_p_1 fun ad => ∃ (t12 : Int), Loads P 3 (ad.add (t10.toNat * 1)) (.int .i64 t12) wv ∧ ((decide ((t12 : Int) = 0)) = true →
        ∃ t18 : Int, t18 = IntKind.wrap .i64 (((a_n_1 : Nat) : Int) - 1) ∧ (0 ≤ (t18 : Int) ∧ (t18 : Int) ≤ (a_c_1 : Nat)) ∧ Inv (sub a_p_1 0 a_c_1 1) (t18.toNat - 0) (a_c_1 - 0) wv ∧ mu (sub a_p_1 0 a_c_1 1) (t18.toNat - 0) (a_c_1 - 0) wv < mu a_p_1 a_n_1 a_c_1 wv) ∧
      ((decide ((t12 : Int) = 0)) = false →
        R (.slice a_p_1 a_n_1 a_c_1) wv)) ∧
    ((decide ((0 : Int) < ((a_n_1 : Nat) : Int))) = false →
      (false = true →
        ∃ t18_1 : Int, t18_1 = IntKind.wrap .i64 (((a_n_1 : Nat) : Int) - 1) ∧ (0 ≤ (t18_1 : Int) ∧ (t18_1 : Int) ≤ (a_c_1 : Nat)) ∧ Inv (sub a_p_1 0 a_c_1 1) (t18_1.toNat - 0) (a_c_1 - 0) wv ∧ mu (sub a_p_1 0 a_c_1 1) (t18_1.toNat - 0) (a_c_1 - 0) wv < mu a_p_1 a_n_1 a_c_1 wv) ∧
      (false = false →
        R (.slice a_p_1 a_n_1 a_c_1) wv))
theorem impl_trim_eq (a_p : Option Addr) (a_n : Nat) (a_c : Nat) (w : World) (R : Value → World → Prop) : impl_trim a_p a_n a_c w R = fsem P Tryz.f146 (fun k => cond (Nat.beq k 2) [(0, .one .slice)] ([])) [(.slice a_p a_n a_c)] R w := by kernel_rfl
theorem impl_trim_ret {a_p : Option Addr} {a_n : Nat} {a_c : Nat} {w : World} {R : Value → World → Prop} (h : impl_trim a_p a_n a_c w R) : Ret P 146 [(.slice a_p a_n a_c)] w R :=
  Ret.of_fsem Tryz.func146 rfl (Eq.mp (impl_trim_eq a_p a_n a_c w R) h)
def impl_natCopy (a_p : Option Addr) (a_n : Nat) (a_c : Nat) (w : World) (R : Value → World → Prop) : Prop :=
  ∀ (r : Nat) (wv : World), New w (.cells ⟨[]⟩ 3 (0, 0)) r wv →
  ∃ (t5_p : Option Addr) (t5_n : Nat) (t5_c : Nat) (wv_1 : World), Appends P [22, 22] [(.slice (some ⟨r, 0, none⟩) 0 0), (.slice a_p a_n a_c)] (.slice t5_p t5_n t5_c) wv wv_1 ∧
  R (.slice t5_p t5_n t5_c) wv_1
theorem impl_natCopy_eq (a_p : Option Addr) (a_n : Nat) (a_c : Nat) (w : World) (R : Value → World → Prop) : impl_natCopy a_p a_n a_c w R = fsem P Tryz.f147 (fun k => []) [(.slice a_p a_n a_c)] R w := by kernel_rfl
theorem impl_natCopy_ret {a_p : Option Addr} {a_n : Nat} {a_c : Nat} {w : World} {R : Value → World → Prop} (h : impl_natCopy a_p a_n a_c w R) : Ret P 147 [(.slice a_p a_n a_c)] w R :=
  Ret.of_fsem Tryz.func147 rfl (Eq.mp (impl_natCopy_eq a_p a_n a_c w R) h)
def impl_RatRound (r0 : Bool) (r1_p : Option Addr) (r1_n : Nat) (r1_c : Nat) (r2_p : Option Addr) (r2_n : Nat) (r2_c : Nat) (m : Int) (w : World) (R : Value → World → Prop) : Prop :=
  ∀ (r : Nat) (wv : World), New w (.cells ⟨[(.bool r0), (.slice r1_p r1_n r1_c), (.slice r2_p r2_n r2_c)]⟩ 35 (0, 0)) r wv →
  ∀ (r_1 : Nat) (wv_1 : World), New wv (.cells ⟨[(.bool false), (.slice none 0 0)]⟩ 31 (0, 0)) r_1 wv_1 →
  ∃ (t60 : Bool) (t61_p : Option Addr) (t61_n : Nat) (t61_c : Nat) (t62_p : Option Addr) (t62_n : Nat) (t62_c : Nat), Loads P 35 ⟨r, 0, none⟩ (.agg #[(.bool t60), (.slice t61_p t61_n t61_c), (.slice t62_p t62_n t62_c)]) wv_1 ∧ Calls P 143 ⟨[(.agg #[(.bool t60), (.slice t61_p t61_n t61_c), (.slice t62_p t62_n t62_c)])]⟩ wv_1 fun e wv_2 =>
  ∃ (t7 : Bool), e = .returned (.bool t7) ∧
  ((!t7) = true →
    (true = true →
      ∃ wv_3, Stores P 31 ⟨r_1, 0, none⟩ (.agg #[(.bool false), (.slice none 0 0)]) wv_2 wv_3 ∧
      ∃ (r0_1 : Bool) (r1_p_1 : Option Addr) (r1_n_1 : Nat) (r1_c_1 : Nat), Loads P 31 ⟨r_1, 0, none⟩ (.agg #[(.bool r0_1), (.slice r1_p_1 r1_n_1 r1_c_1)]) wv_3 ∧ R (.tuple #[(.agg #[(.bool r0_1), (.slice r1_p_1 r1_n_1 r1_c_1)]), (.bool false)]) wv_3) ∧
    (true = false →
      ∃ (t160 : Bool) (t161_p : Option Addr) (t161_n : Nat) (t161_c : Nat), Loads P 31 ((⟨r, 0, none⟩ : Addr).add 0) (.agg #[(.bool t160), (.slice t161_p t161_n t161_c)]) wv_2 ∧ ∃ (t18_p : Option Addr) (t18_n : Nat) (t18_c : Nat), Loads P 22 ((⟨r, 0, none⟩ : Addr).add 2) (.slice t18_p t18_n t18_c) wv_2 ∧ Calls P 167 ⟨[(.agg #[(.bool t160), (.slice t161_p t161_n t161_c)]), (.slice t18_p t18_n t18_c), (.int .i64 m)]⟩ wv_2 fun e_1 wv_4 =>
      ∃ (t200 : Bool) (t201_p : Option Addr) (t201_n : Nat) (t201_c : Nat), e_1 = .returned (.agg #[(.bool t200), (.slice t201_p t201_n t201_c)]) ∧
      ∃ wv_5, Stores P 31 ⟨r_1, 0, none⟩ (.agg #[(.bool t200), (.slice t201_p t201_n t201_c)]) wv_4 wv_5 ∧
      ∃ (r0_2 : Bool) (r1_p_2 : Option Addr) (r1_n_2 : Nat) (r1_c_2 : Nat), Loads P 31 ⟨r_1, 0, none⟩ (.agg #[(.bool r0_2), (.slice r1_p_2 r1_n_2 r1_c_2)]) wv_5 ∧ R (.tuple #[(.agg #[(.bool r0_2), (.slice r1_p_2 r1_n_2 r1_c_2)]), (.bool true)]) wv_5)) ∧
  ((!t7) = false →
    Calls P 166 ⟨[(.int .i64 m)]⟩ wv_2 fun e_2 wv_6 =>
    ∃ (t11 : Bool), e_2 = .returned (.bool t11) ∧
    ((!t11) = true →
      ∃ wv_7, Stores P 31 ⟨r_1, 0, none⟩ (.agg #[(.bool false), (.slice none 0 0)]) wv_6 wv_7 ∧
      ∃ (r0_3 : Bool) (r1_p_3 : Option Addr) (r1_n_3 : Nat) (r1_c_3 : Nat), Loads P 31 ⟨r_1, 0, none⟩ (.agg #[(.bool r0_3), (.slice r1_p_3 r1_n_3 r1_c_3)]) wv_7 ∧ R (.tuple #[(.agg #[(.bool r0_3), (.slice r1_p_3 r1_n_3 r1_c_3)]), (.bool false)]) wv_7) ∧
    ((!t11) = false →
      ∃ (t160_1 : Bool) (t161_p_1 : Option Addr) (t161_n_1 : Nat) (t161_c_1 : Nat), Loads P 31 ((⟨r, 0, none⟩ : Addr).add 0) (.agg #[(.bool t160_1), (.slice t161_p_1 t161_n_1 t161_c_1)]) wv_6 ∧ ∃ (t18_p_1 : Option Addr) (t18_n_1 : Nat) (t18_c_1 : Nat), Loads P 22 ((⟨r, 0, none⟩ : Addr).add 2) (.slice t18_p_1 t18_n_1 t18_c_1) wv_6 ∧ Calls P 167 ⟨[(.agg #[(.bool t160_1), (.slice t161_p_1 t161_n_1 t161_c_1)]), (.slice t18_p_1 t18_n_1 t18_c_1), (.int .i64 m)]⟩ wv_6 fun e_3 wv_8 =>
      ∃ (t200_1 : Bool) (t201_p_1 : Option Addr) (t201_n_1 : Nat) (t201_c_1 : Nat), e_3 = .returned (.agg #[(.bool t200_1), (.slice t201_p_1 t201_n_1 t201_c_1)]) ∧
      ∃ wv_9, Stores P 31 ⟨r_1, 0, none⟩ (.agg #[(.bool t200_1), (.slice t201_p_1 t201_n_1 t201_c_1)]) wv_8 wv_9 ∧
      ∃ (r0_4 : Bool) (r1_p_4 : Option Addr) (r1_n_4 : Nat) (r1_c_4 : Nat), Loads P 31 ⟨r_1, 0, none⟩ (.agg #[(.bool r0_4), (.slice r1_p_4 r1_n_4 r1_c_4)]) wv_9 ∧ R (.tuple #[(.agg #[(.bool r0_4), (.slice r1_p_4 r1_n_4 r1_c_4)]), (.bool true)]) wv_9))
theorem impl_RatRound_eq (r0 : Bool) (r1_p : Option Addr) (r1_n : Nat) (r1_c : Nat) (r2_p : Option Addr) (r2_n : Nat) (r2_c : Nat) (m : Int) (w : World) (R : Value → World → Prop) : impl_RatRound r0 r1_p r1_n r1_c r2_p r2_n r2_c m w R = fsem P Tryz.f148 (fun k => []) [(.agg #[(.bool r0), (.slice r1_p r1_n r1_c), (.slice r2_p r2_n r2_c)]), (.int .i64 m)] R w := by kernel_rfl
theorem impl_RatRound_ret {r0 : Bool} {r1_p : Option Addr} {r1_n : Nat} {r1_c : Nat} {r2_p : Option Addr} {r2_n : Nat} {r2_c : Nat} {m : Int} {w : World} {R : Value → World → Prop} (h : impl_RatRound r0 r1_p r1_n r1_c r2_p r2_n r2_c m w R) : Ret P 148 [(.agg #[(.bool r0), (.slice r1_p r1_n r1_c), (.slice r2_p r2_n r2_c)]), (.int .i64 m)] w R :=
  Ret.of_fsem Tryz.func148 rfl (Eq.mp (impl_RatRound_eq r0 r1_p r1_n r1_c r2_p r2_n r2_c m w R) h)
def impl_RatSub (r0 : Bool) (r1_p : Option Addr) (r1_n : Nat) (r1_c : Nat) (r2_p : Option Addr) (r2_n : Nat) (r2_c : Nat) (s0 : Bool) (s1_p : Option Addr) (s1_n : Nat) (s1_c : Nat) (s2_p : Option Addr) (s2_n : Nat) (s2_c : Nat) (w : World) (R : Value → World → Prop) : Prop :=
  ∀ (r : Nat) (wv : World), New w (.cells ⟨[(.bool r0), (.slice r1_p r1_n r1_c), (.slice r2_p r2_n r2_c)]⟩ 35 (0, 0)) r wv →
  ∀ (r_1 : Nat) (wv_1 : World), New wv (.cells ⟨[(.bool s0), (.slice s1_p s1_n s1_c), (.slice s2_p s2_n s2_c)]⟩ 35 (0, 0)) r_1 wv_1 →
  ∀ (r_2 : Nat) (wv_2 : World), New wv_1 (.cells ⟨[(.bool false), (.slice none 0 0), (.slice none 0 0)]⟩ 35 (0, 0)) r_2 wv_2 →
  ∃ (t60 : Bool) (t61_p : Option Addr) (t61_n : Nat) (t61_c : Nat) (t62_p : Option Addr) (t62_n : Nat) (t62_c : Nat), Loads P 35 ⟨r, 0, none⟩ (.agg #[(.bool t60), (.slice t61_p t61_n t61_c), (.slice t62_p t62_n t62_c)]) wv_2 ∧ ∃ (t70 : Bool) (t71_p : Option Addr) (t71_n : Nat) (t71_c : Nat) (t72_p : Option Addr) (t72_n : Nat) (t72_c : Nat), Loads P 35 ⟨r_1, 0, none⟩ (.agg #[(.bool t70), (.slice t71_p t71_n t71_c), (.slice t72_p t72_n t72_c)]) wv_2 ∧ Calls P 97 ⟨[(.agg #[(.bool t60), (.slice t61_p t61_n t61_c), (.slice t62_p t62_n t62_c)]), (.agg #[(.bool t70), (.slice t71_p t71_n t71_c), (.slice t72_p t72_n t72_c)])]⟩ wv_2 fun e wv_3 =>
  ∃ (t8 : Bool), e = .returned (.bool t8) ∧
  ((!t8) = true →
    ∃ wv_4, Stores P 35 ⟨r_2, 0, none⟩ (.agg #[(.bool false), (.slice none 0 0), (.slice none 0 0)]) wv_3 wv_4 ∧
    ∃ (r0_1 : Bool) (r1_p_1 : Option Addr) (r1_n_1 : Nat) (r1_c_1 : Nat) (r2_p_1 : Option Addr) (r2_n_1 : Nat) (r2_c_1 : Nat), Loads P 35 ⟨r_2, 0, none⟩ (.agg #[(.bool r0_1), (.slice r1_p_1 r1_n_1 r1_c_1), (.slice r2_p_1 r2_n_1 r2_c_1)]) wv_4 ∧ R (.tuple #[(.agg #[(.bool r0_1), (.slice r1_p_1 r1_n_1 r1_c_1), (.slice r2_p_1 r2_n_1 r2_c_1)]), (.bool false)]) wv_4) ∧
  ((!t8) = false →
    ∃ (t110 : Bool) (t111_p : Option Addr) (t111_n : Nat) (t111_c : Nat) (t112_p : Option Addr) (t112_n : Nat) (t112_c : Nat), (∀ wv_5, Ext wv_3.drew wv_5 → Loads P 35 ⟨r, 0, none⟩ (.agg #[(.bool t110), (.slice t111_p t111_n t111_c), (.slice t112_p t112_n t112_c)]) wv_5) ∧ ∃ (t120 : Bool) (t121_p : Option Addr) (t121_n : Nat) (t121_c : Nat) (t122_p : Option Addr) (t122_n : Nat) (t122_c : Nat), (∀ wv_6, Ext wv_3.drew wv_6 → Loads P 35 ⟨r_1, 0, none⟩ (.agg #[(.bool t120), (.slice t121_p t121_n t121_c), (.slice t122_p t122_n t122_c)]) wv_6) ∧ Calls P 168 ⟨[(.agg #[(.bool t120), (.slice t121_p t121_n t121_c), (.slice t122_p t122_n t122_c)])]⟩ wv_3.drew fun e_1 wv_7 =>
    ∃ (t130 : Bool) (t131_p : Option Addr) (t131_n : Nat) (t131_c : Nat) (t132_p : Option Addr) (t132_n : Nat) (t132_c : Nat), e_1 = .returned (.agg #[(.bool t130), (.slice t131_p t131_n t131_c), (.slice t132_p t132_n t132_c)]) ∧
    Ext wv_3.drew wv_7 ∧ Calls P 64 ⟨[(.agg #[(.bool t110), (.slice t111_p t111_n t111_c), (.slice t112_p t112_n t112_c)]), (.agg #[(.bool t130), (.slice t131_p t131_n t131_c), (.slice t132_p t132_n t132_c)])]⟩ wv_7 fun e_2 wv_8 =>
    ∃ (t140 : Bool) (t141_p : Option Addr) (t141_n : Nat) (t141_c : Nat) (t142_p : Option Addr) (t142_n : Nat) (t142_c : Nat) (t14 : Bool), e_2 = .returned (.tuple #[(.agg #[(.bool t140), (.slice t141_p t141_n t141_c), (.slice t142_p t142_n t142_c)]), (.bool t14)]) ∧
    ∃ wv_9, Stores P 35 ⟨r_2, 0, none⟩ (.agg #[(.bool t140), (.slice t141_p t141_n t141_c), (.slice t142_p t142_n t142_c)]) wv_8 wv_9 ∧
    ∃ (r0_2 : Bool) (r1_p_2 : Option Addr) (r1_n_2 : Nat) (r1_c_2 : Nat) (r2_p_2 : Option Addr) (r2_n_2 : Nat) (r2_c_2 : Nat), Loads P 35 ⟨r_2, 0, none⟩ (.agg #[(.bool r0_2), (.slice r1_p_2 r1_n_2 r1_c_2), (.slice r2_p_2 r2_n_2 r2_c_2)]) wv_9 ∧ R (.tuple #[(.agg #[(.bool r0_2), (.slice r1_p_2 r1_n_2 r1_c_2), (.slice r2_p_2 r2_n_2 r2_c_2)]), (.bool t14)]) wv_9)
theorem impl_RatSub_eq (r0 : Bool) (r1_p : Option Addr) (r1_n : Nat) (r1_c : Nat) (r2_p : Option Addr) (r2_n : Nat) (r2_c : Nat) (s0 : Bool) (s1_p : Option Addr) (s1_n : Nat) (s1_c : Nat) (s2_p : Option Addr) (s2_n : Nat) (s2_c : Nat) (w : World) (R : Value → World → Prop) : impl_RatSub r0 r1_p r1_n r1_c r2_p r2_n r2_c s0 s1_p s1_n s1_c s2_p s2_n s2_c w R = fsem P Tryz.f149 (fun k => []) [(.agg #[(.bool r0), (.slice r1_p r1_n r1_c), (.slice r2_p r2_n r2_c)]), (.agg #[(.bool s0), (.slice s1_p s1_n s1_c), (.slice s2_p s2_n s2_c)])] R w := by kernel_rfl
theorem impl_RatSub_ret {r0 : Bool} {r1_p : Option Addr} {r1_n : Nat} {r1_c : Nat} {r2_p : Option Addr} {r2_n : Nat} {r2_c : Nat} {s0 : Bool} {s1_p : Option Addr} {s1_n : Nat} {s1_c : Nat} {s2_p : Option Addr} {s2_n : Nat} {s2_c : Nat} {w : World} {R : Value → World → Prop} (h : impl_RatSub r0 r1_p r1_n r1_c r2_p r2_n r2_c s0 s1_p s1_n s1_c s2_p s2_n s2_c w R) : Ret P 149 [(.agg #[(.bool r0), (.slice r1_p r1_n r1_c), (.slice r2_p r2_n r2_c)]), (.agg #[(.bool s0), (.slice s1_p s1_n s1_c), (.slice s2_p s2_n s2_c)])] w R :=
  Ret.of_fsem Tryz.func149 rfl (Eq.mp (impl_RatSub_eq r0 r1_p r1_n r1_c r2_p r2_n r2_c s0 s1_p s1_n s1_c s2_p s2_n s2_c w R) h)
def spec_l02Add_j2 (wv_1 : World) (Inv : Option Addr → Nat → Nat → Int → Int → World → Prop) (mu : Option Addr → Nat → Nat → Int → Int → World → Nat) (out_p : Option Addr) (out_n : Nat) (out_c : Nat) (carry : Int) (i : Int) (n_1 : Int) (W_2 : World) (R : Value → World → Prop) : Prop :=
  (1000000000 : Int) ≠ 0 ∧ ∃ t49 : Int, t49 = Int.tmod n_1 1000000000 ∧ ∀ (r_1 : Nat) (wv_2 : World), New W_2 (.cells ⟨[(.int .i64 t49)]⟩ 3 (0, 0)) r_1 wv_2 →
  ∃ (t51_p : Option Addr) (t51_n : Nat) (t51_c : Nat) (wv_3 : World), Appends P [22, 22] [(.slice out_p out_n out_c), (.slice (some ⟨r_1, 0, none⟩) 1 1)] (.slice t51_p t51_n t51_c) wv_2 wv_3 ∧
  (1000000000 : Int) ≠ 0 ∧ ∃ t53 : Int, t53 = IntKind.wrap .i64 (Int.tdiv n_1 1000000000) ∧ ∃ t25 : Int, t25 = IntKind.wrap .i64 (i + 1) ∧ Inv t51_p t51_n t51_c t53 t25 wv_3 ∧ mu t51_p t51_n t51_c t53 t25 wv_3 < mu out_p out_n out_c carry i wv_1
def spec_l02Add_j1 (b_p : Option Addr) (b_n : Nat) (wv_1 : World) (Inv : Option Addr → Nat → Nat → Int → Int → World → Prop) (mu : Option Addr → Nat → Nat → Int → Int → World → Nat) (out_p : Option Addr) (out_n : Nat) (out_c : Nat) (carry : Int) (i : Int) (n : Int) (W_1 : World) (R : Value → World → Prop) : Prop :=
  ((decide ((i : Int) < ((b_n : Nat) : Int))) = true →
    (0 ≤ (i : Int) ∧ (i : Int) < (b_n : Nat)) ∧ ptrS b_p fun ad_1 => ∃ (t45 : Int), Loads P 3 (ad_1.add (i.toNat * 1)) (.int .i64 t45) W_1 ∧ ∃ t46 : Int, t46 = IntKind.wrap .i64 (n + t45) ∧ spec_l02Add_j2 wv_1 Inv mu out_p out_n out_c carry i t46 W_1 R) ∧
  ((decide ((i : Int) < ((b_n : Nat) : Int))) = false →
    spec_l02Add_j2 wv_1 Inv mu out_p out_n out_c carry i n W_1 R)
def spec_l02Add_j0 (a_p : Option Addr) (a_n : Nat) (b_p : Option Addr) (b_n : Nat) (wv_1 : World) (Inv : Option Addr → Nat → Nat → Int → Int → World → Prop) (mu : Option Addr → Nat → Nat → Int → Int → World → Nat) (out_p : Option Addr) (out_n : Nat) (out_c : Nat) (carry : Int) (i : Int) (W : World) (R : Value → World → Prop) : Prop :=
  ((decide ((i : Int) < ((a_n : Nat) : Int))) = true →
    (0 ≤ (i : Int) ∧ (i : Int) < (a_n : Nat)) ∧ ptrS a_p fun ad => ∃ (t35 : Int), Loads P 3 (ad.add (i.toNat * 1)) (.int .i64 t35) W ∧ ∃ t36 : Int, t36 = IntKind.wrap .i64 (carry + t35) ∧ spec_l02Add_j1 b_p b_n wv_1 Inv mu out_p out_n out_c carry i t36 W R) ∧
  ((decide ((i : Int) < ((a_n : Nat) : Int))) = false →
    spec_l02Add_j1 b_p b_n wv_1 Inv mu out_p out_n out_c carry i carry W R)
def spec_l02Add (a_p : Option Addr) (a_n : Nat) (a_c : Nat) (b_p : Option Addr) (b_n : Nat) (b_c : Nat) (w : World) (R : Value → World → Prop) : Prop :=
  ∀ (r : Nat) (wv : World), New w (.cells ⟨[]⟩ 3 (0, 0)) r wv →
  ∃ (Inv : Option Addr → Nat → Nat → Int → Int → World → Prop) (mu : Option Addr → Nat → Nat → Int → Int → World → Nat), Inv (some ⟨r, 0, none⟩) 0 0 0 0 wv ∧
  ∀ (junk : Fr) (wv_1 : World) (out_p : Option Addr) (out_n : Nat) (out_c : Nat) (carry : Int) (i : Int), Inv out_p out_n out_c carry i wv_1 →
    ((decide ((i : Int) < ((a_n : Nat) : Int))) = true →
      (true = true →
        (true = true →
          spec_l02Add_j0 a_p a_n b_p b_n wv_1 Inv mu out_p out_n out_c carry i wv_1 R) ∧
        (true = false →
          R (.slice out_p out_n out_c) wv_1)) ∧
      (true = false →
        ((decide ((0 : Int) < carry)) = true →
          spec_l02Add_j0 a_p a_n b_p b_n wv_1 Inv mu out_p out_n out_c carry i wv_1 R) ∧
        ((decide ((0 : Int) < carry)) = false →
          R (.slice out_p out_n out_c) wv_1))) ∧
    ((decide ((i : Int) < ((a_n : Nat) : Int))) = false →
      ((decide ((i : Int) < ((b_n : Nat) : Int))) = true →
        (true = true →
          spec_l02Add_j0 a_p a_n b_p b_n wv_1 Inv mu out_p out_n out_c carry i wv_1 R) ∧
        (true = false →
          R (.slice out_p out_n out_c) wv_1)) ∧
      ((decide ((i : Int) < ((b_n : Nat) : Int))) = false →
        ((decide ((0 : Int) < carry)) = true →
          spec_l02Add_j0 a_p a_n b_p b_n wv_1 Inv mu out_p out_n out_c carry i wv_1 R) ∧
        ((decide ((0 : Int) < carry)) = false →
          R (.slice out_p out_n out_c) wv_1)))
theorem spec_l02Add_eq (a_p : Option Addr) (a_n : Nat) (a_c : Nat) (b_p : Option Addr) (b_n : Nat) (b_c : Nat) (w : World) (R : Value → World → Prop) : spec_l02Add a_p a_n a_c b_p b_n b_c w R = fsem P Tryz.f150 (fun k => cond (Nat.beq k 5) [(5, .one .slice), (6, .one (.int .i64)), (7, .one (.int .i64))] ([])) [(.slice a_p a_n a_c), (.slice b_p b_n b_c)] R w := by kernel_rfl
theorem spec_l02Add_ret {a_p : Option Addr} {a_n : Nat} {a_c : Nat} {b_p : Option Addr} {b_n : Nat} {b_c : Nat} {w : World} {R : Value → World → Prop} (h : spec_l02Add a_p a_n a_c b_p b_n b_c w R) : Ret P 150 [(.slice a_p a_n a_c), (.slice b_p b_n b_c)] w R :=
  Ret.of_fsem Tryz.func150 rfl (Eq.mp (spec_l02Add_eq a_p a_n a_c b_p b_n b_c w R) h)
def spec_l02Sub_j1 (wv_1 : World) (Inv : Option Addr → Nat → Nat → Int → Int → World → Prop) (mu : Option Addr → Nat → Nat → Int → Int → World → Nat) (out_p : Option Addr) (out_n : Nat) (out_c : Nat) (less : Int) (t12 : Int) (less_1 : Int) (n_1 : Int) (W_1 : World) (R : Value → World → Prop) : Prop :=
  ∀ (r_1 : Nat) (wv_2 : World), New W_1 (.cells ⟨[(.int .i64 n_1)]⟩ 3 (0, 0)) r_1 wv_2 →
  ∃ (t38_p : Option Addr) (t38_n : Nat) (t38_c : Nat) (wv_3 : World), Appends P [22, 22] [(.slice out_p out_n out_c), (.slice (some ⟨r_1, 0, none⟩) 1 1)] (.slice t38_p t38_n t38_c) wv_2 wv_3 ∧
  ∃ t39 : Int, t39 = IntKind.wrap .i64 (t12 + 1) ∧ Inv t38_p t38_n t38_c less_1 t39 wv_3 ∧ mu t38_p t38_n t38_c less_1 t39 wv_3 < mu out_p out_n out_c less t12 wv_1
def spec_l02Sub_j0 (wv_1 : World) (Inv : Option Addr → Nat → Nat → Int → Int → World → Prop) (mu : Option Addr → Nat → Nat → Int → Int → World → Nat) (out_p : Option Addr) (out_n : Nat) (out_c : Nat) (less : Int) (t12 : Int) (n : Int) (W : World) (R : Value → World → Prop) : Prop :=
  ((decide ((n : Int) < 0)) = true →
    ∃ t34 : Int, t34 = IntKind.wrap .i64 (n + 1000000000) ∧ spec_l02Sub_j1 wv_1 Inv mu out_p out_n out_c less t12 1 t34 W R) ∧
  ((decide ((n : Int) < 0)) = false →
    spec_l02Sub_j1 wv_1 Inv mu out_p out_n out_c less t12 0 n W R)
def spec_l02Sub (a_p : Option Addr) (a_n : Nat) (a_c : Nat) (b_p : Option Addr) (b_n : Nat) (b_c : Nat) (w : World) (R : Value → World → Prop) : Prop :=
  ∀ (r : Nat) (wv : World), New w (.cells ⟨[]⟩ 3 (0, 0)) r wv →
  ∃ (Inv : Option Addr → Nat → Nat → Int → Int → World → Prop) (mu : Option Addr → Nat → Nat → Int → Int → World → Nat), Inv (some ⟨r, 0, none⟩) 0 0 0 0 wv ∧
  ∀ (junk : Fr) (wv_1 : World) (out_p : Option Addr) (out_n : Nat) (out_c : Nat) (less : Int) (t12 : Int), Inv out_p out_n out_c less t12 wv_1 →
    ((decide ((t12 : Int) < ((a_n : Nat) : Int))) = true →
      (0 ≤ (t12 : Int) ∧ (t12 : Int) < (a_n : Nat)) ∧ ptrS a_p fun ad => ∃ (t18 : Int), Loads P 3 (ad.add (t12.toNat * 1)) (.int .i64 t18) wv_1 ∧ ∃ t20 : Int, t20 = IntKind.wrap .i64 (t18 - less) ∧ ((decide ((t12 : Int) < ((b_n : Nat) : Int))) = true →
        (0 ≤ (t12 : Int) ∧ (t12 : Int) < (b_n : Nat)) ∧ ptrS b_p fun ad_1 => ∃ (t29 : Int), Loads P 3 (ad_1.add (t12.toNat * 1)) (.int .i64 t29) wv_1 ∧ ∃ t30 : Int, t30 = IntKind.wrap .i64 (t20 - t29) ∧ spec_l02Sub_j0 wv_1 Inv mu out_p out_n out_c less t12 t30 wv_1 R) ∧
      ((decide ((t12 : Int) < ((b_n : Nat) : Int))) = false →
        spec_l02Sub_j0 wv_1 Inv mu out_p out_n out_c less t12 t20 wv_1 R)) ∧
    ((decide ((t12 : Int) < ((a_n : Nat) : Int))) = false →
      Calls P 133 ⟨[(.slice out_p out_n out_c)]⟩ wv_1 fun e wv_4 =>
      ∃ (t41_p : Option Addr) (t41_n : Nat) (t41_c : Nat), e = .returned (.slice t41_p t41_n t41_c) ∧
      R (.slice t41_p t41_n t41_c) wv_4)
theorem spec_l02Sub_eq (a_p : Option Addr) (a_n : Nat) (a_c : Nat) (b_p : Option Addr) (b_n : Nat) (b_c : Nat) (w : World) (R : Value → World → Prop) : spec_l02Sub a_p a_n a_c b_p b_n b_c w R = fsem P Tryz.f151 (fun k => cond (Nat.beq k 5) [(5, .one .slice), (6, .one (.int .i64)), (12, .one (.int .i64))] ([])) [(.slice a_p a_n a_c), (.slice b_p b_n b_c)] R w := by kernel_rfl
theorem spec_l02Sub_ret {a_p : Option Addr} {a_n : Nat} {a_c : Nat} {b_p : Option Addr} {b_n : Nat} {b_c : Nat} {w : World} {R : Value → World → Prop} (h : spec_l02Sub a_p a_n a_c b_p b_n b_c w R) : Ret P 151 [(.slice a_p a_n a_c), (.slice b_p b_n b_c)] w R :=
  Ret.of_fsem Tryz.func151 rfl (Eq.mp (spec_l02Sub_eq a_p a_n a_c b_p b_n b_c w R) h)
def spec_IntNeg (x0 : Bool) (x1_p : Option Addr) (x1_n : Nat) (x1_c : Nat) (w : World) (R : Value → World → Prop) : Prop :=
  ∀ (r : Nat) (wv : World), New w (.cells ⟨[(.bool x0), (.slice x1_p x1_n x1_c)]⟩ 31 (0, 0)) r wv →
  ∀ (r_1 : Nat) (wv_1 : World), New wv (.cells ⟨[(.bool false), (.slice none 0 0)]⟩ 31 (0, 0)) r_1 wv_1 →
  ∃ (t30 : Bool) (t31_p : Option Addr) (t31_n : Nat) (t31_c : Nat), Loads P 31 ⟨r, 0, none⟩ (.agg #[(.bool t30), (.slice t31_p t31_n t31_c)]) wv_1 ∧ Calls P 82 ⟨[(.agg #[(.bool t30), (.slice t31_p t31_n t31_c)])]⟩ wv_1 fun e wv_2 =>
  ∃ (t4 : Bool), e = .returned (.bool t4) ∧
  ((!t4) = true →
    ∃ wv_3, Stores P 31 ⟨r_1, 0, none⟩ (.agg #[(.bool false), (.slice none 0 0)]) wv_2 wv_3 ∧
    ∃ (r0 : Bool) (r1_p : Option Addr) (r1_n : Nat) (r1_c : Nat), Loads P 31 ⟨r_1, 0, none⟩ (.agg #[(.bool r0), (.slice r1_p r1_n r1_c)]) wv_3 ∧ R (.agg #[(.bool r0), (.slice r1_p r1_n r1_c)]) wv_3) ∧
  ((!t4) = false →
    ∃ (t8 : Bool), Loads P 4 ((⟨r, 0, none⟩ : Addr).add 0) (.bool t8) wv_2 ∧ ∃ (t11_p : Option Addr) (t11_n : Nat) (t11_c : Nat), Loads P 22 ((⟨r, 0, none⟩ : Addr).add 1) (.slice t11_p t11_n t11_c) wv_2 ∧ Calls P 70 ⟨[(.bool (!t8)), (.slice t11_p t11_n t11_c)]⟩ wv_2 fun e_1 wv_4 =>
    ∃ (t120 : Bool) (t121_p : Option Addr) (t121_n : Nat) (t121_c : Nat), e_1 = .returned (.agg #[(.bool t120), (.slice t121_p t121_n t121_c)]) ∧
    ∃ wv_5, Stores P 31 ⟨r_1, 0, none⟩ (.agg #[(.bool t120), (.slice t121_p t121_n t121_c)]) wv_4 wv_5 ∧
    ∃ (r0_1 : Bool) (r1_p_1 : Option Addr) (r1_n_1 : Nat) (r1_c_1 : Nat), Loads P 31 ⟨r_1, 0, none⟩ (.agg #[(.bool r0_1), (.slice r1_p_1 r1_n_1 r1_c_1)]) wv_5 ∧ R (.agg #[(.bool r0_1), (.slice r1_p_1 r1_n_1 r1_c_1)]) wv_5)
theorem spec_IntNeg_eq (x0 : Bool) (x1_p : Option Addr) (x1_n : Nat) (x1_c : Nat) (w : World) (R : Value → World → Prop) : spec_IntNeg x0 x1_p x1_n x1_c w R = fsem P Tryz.f152 (fun k => []) [(.agg #[(.bool x0), (.slice x1_p x1_n x1_c)])] R w := by kernel_rfl
theorem spec_IntNeg_ret {x0 : Bool} {x1_p : Option Addr} {x1_n : Nat} {x1_c : Nat} {w : World} {R : Value → World → Prop} (h : spec_IntNeg x0 x1_p x1_n x1_c w R) : Ret P 152 [(.agg #[(.bool x0), (.slice x1_p x1_n x1_c)])] w R :=
  Ret.of_fsem Tryz.func152 rfl (Eq.mp (spec_IntNeg_eq x0 x1_p x1_n x1_c w R) h)
def impl_intsOk (x0 : Bool) (x1_p : Option Addr) (x1_n : Nat) (x1_c : Nat) (y0 : Bool) (y1_p : Option Addr) (y1_n : Nat) (y1_c : Nat) (w : World) (R : Value → World → Prop) : Prop :=
  ∀ (r : Nat) (wv : World), New w (.cells ⟨[(.bool x0), (.slice x1_p x1_n x1_c)]⟩ 31 (0, 0)) r wv →
  ∀ (r_1 : Nat) (wv_1 : World), New wv (.cells ⟨[(.bool y0), (.slice y1_p y1_n y1_c)]⟩ 31 (0, 0)) r_1 wv_1 →
  ∃ (t50 : Bool) (t51_p : Option Addr) (t51_n : Nat) (t51_c : Nat), Loads P 31 ⟨r, 0, none⟩ (.agg #[(.bool t50), (.slice t51_p t51_n t51_c)]) wv_1 ∧ Calls P 94 ⟨[(.agg #[(.bool t50), (.slice t51_p t51_n t51_c)])]⟩ wv_1 fun e wv_2 =>
  ∃ (t6 : Bool), e = .returned (.bool t6) ∧
  (t6 = true →
    ∃ (t80 : Bool) (t81_p : Option Addr) (t81_n : Nat) (t81_c : Nat), Loads P 31 ⟨r_1, 0, none⟩ (.agg #[(.bool t80), (.slice t81_p t81_n t81_c)]) wv_2 ∧ Calls P 94 ⟨[(.agg #[(.bool t80), (.slice t81_p t81_n t81_c)])]⟩ wv_2 fun e_1 wv_3 =>
    ∃ (t9 : Bool), e_1 = .returned (.bool t9) ∧
    R (.bool t9) wv_3) ∧
  (t6 = false →
    R (.bool false) wv_2)
theorem impl_intsOk_eq (x0 : Bool) (x1_p : Option Addr) (x1_n : Nat) (x1_c : Nat) (y0 : Bool) (y1_p : Option Addr) (y1_n : Nat) (y1_c : Nat) (w : World) (R : Value → World → Prop) : impl_intsOk x0 x1_p x1_n x1_c y0 y1_p y1_n y1_c w R = fsem P Tryz.f153 (fun k => []) [(.agg #[(.bool x0), (.slice x1_p x1_n x1_c)]), (.agg #[(.bool y0), (.slice y1_p y1_n y1_c)])] R w := by kernel_rfl
theorem impl_intsOk_ret {x0 : Bool} {x1_p : Option Addr} {x1_n : Nat} {x1_c : Nat} {y0 : Bool} {y1_p : Option Addr} {y1_n : Nat} {y1_c : Nat} {w : World} {R : Value → World → Prop} (h : impl_intsOk x0 x1_p x1_n x1_c y0 y1_p y1_n y1_c w R) : Ret P 153 [(.agg #[(.bool x0), (.slice x1_p x1_n x1_c)]), (.agg #[(.bool y0), (.slice y1_p y1_n y1_c)])] w R :=
  Ret.of_fsem Tryz.func153 rfl (Eq.mp (impl_intsOk_eq x0 x1_p x1_n x1_c y0 y1_p y1_n y1_c w R) h)
def impl_natAdd_j1 (wv_1 : World) (Inv : Option Addr → Nat → Nat → Int → Int → World → Prop) (mu : Option Addr → Nat → Nat → Int → Int → World → Nat) (out_p : Option Addr) (out_n : Nat) (out_c : Nat) (carry : Int) (i : Int) (carry_2 : Int) (W_1 : World) (R : Value → World → Prop) : Prop :=
  (1000000000 : Int) ≠ 0 ∧ ∃ t46 : Int, t46 = Int.tmod carry_2 1000000000 ∧ ∀ (r_1 : Nat) (wv_2 : World), New W_1 (.cells ⟨[(.int .i64 t46)]⟩ 3 (0, 0)) r_1 wv_2 →
  ∃ (t48_p : Option Addr) (t48_n : Nat) (t48_c : Nat) (wv_3 : World), Appends P [22, 22] [(.slice out_p out_n out_c), (.slice (some ⟨r_1, 0, none⟩) 1 1)] (.slice t48_p t48_n t48_c) wv_2 wv_3 ∧
  (1000000000 : Int) ≠ 0 ∧ ∃ t50 : Int, t50 = IntKind.wrap .i64 (Int.tdiv carry_2 1000000000) ∧ ∃ t23 : Int, t23 = IntKind.wrap .i64 (i + 1) ∧ Inv t48_p t48_n t48_c t50 t23 wv_3 ∧ mu t48_p t48_n t48_c t50 t23 wv_3 < mu out_p out_n out_c carry i wv_1
def impl_natAdd_j0 (b_p : Option Addr) (b_n : Nat) (wv_1 : World) (Inv : Option Addr → Nat → Nat → Int → Int → World → Prop) (mu : Option Addr → Nat → Nat → Int → Int → World → Nat) (out_p : Option Addr) (out_n : Nat) (out_c : Nat) (carry : Int) (i : Int) (carry_1 : Int) (W : World) (R : Value → World → Prop) : Prop :=
  ((decide ((i : Int) < ((b_n : Nat) : Int))) = true →
    (0 ≤ (i : Int) ∧ (i : Int) < (b_n : Nat)) ∧ ptrS b_p fun ad_1 => ∃ (t42 : Int), Loads P 3 (ad_1.add (i.toNat * 1)) (.int .i64 t42) W ∧ ∃ t43 : Int, t43 = IntKind.wrap .i64 (carry_1 + t42) ∧ impl_natAdd_j1 wv_1 Inv mu out_p out_n out_c carry i t43 W R) ∧
  ((decide ((i : Int) < ((b_n : Nat) : Int))) = false →
    impl_natAdd_j1 wv_1 Inv mu out_p out_n out_c carry i carry_1 W R)
def impl_natAdd (a_p : Option Addr) (a_n : Nat) (a_c : Nat) (b_p : Option Addr) (b_n : Nat) (b_c : Nat) (w : World) (R : Value → World → Prop) : Prop :=
  ∃ t12 : Int, t12 = (if ((b_n : Nat) : Int) > ((a_n : Nat) : Int) then ((b_n : Nat) : Int) else ((a_n : Nat) : Int)) ∧ ∃ t13 : Int, t13 = IntKind.wrap .i64 (t12 + 1) ∧ (0 ≤ (0 : Int) ∧ (0 : Int) ≤ t13 ∧ ((8 : Nat) : Int) * t13 ≤ 281474976710656) ∧
  ∀ (r : Nat) (wv : World), New w (.cells ⟨zeroRow (.int .i64 0) (t13.toNat * 1)⟩ 3 (0, 0)) r wv →
  ∃ (Inv : Option Addr → Nat → Nat → Int → Int → World → Prop) (mu : Option Addr → Nat → Nat → Int → Int → World → Nat), Inv (some ⟨r, 0, none⟩) 0 t13.toNat 0 0 wv ∧
  ∀ (junk : Fr) (wv_1 : World) (out_p : Option Addr) (out_n : Nat) (out_c : Nat) (carry : Int) (i : Int), Inv out_p out_n out_c carry i wv_1 →
    ∃ t20 : Int, t20 = (if ((b_n : Nat) : Int) > ((a_n : Nat) : Int) then ((b_n : Nat) : Int) else ((a_n : Nat) : Int)) ∧ ((decide ((i : Int) < t20)) = true →
      ((decide ((i : Int) < ((a_n : Nat) : Int))) = true →
        (0 ≤ (i : Int) ∧ (i : Int) < (a_n : Nat)) ∧ ptrS a_p fun ad => ∃ (t32 : Int), Loads P 3 (ad.add (i.toNat * 1)) (.int .i64 t32) wv_1 ∧ ∃ t33 : Int, t33 = IntKind.wrap .i64 (carry + t32) ∧ impl_natAdd_j0 b_p b_n wv_1 Inv mu out_p out_n out_c carry i t33 wv_1 R) ∧
      ((decide ((i : Int) < ((a_n : Nat) : Int))) = false →
        impl_natAdd_j0 b_p b_n wv_1 Inv mu out_p out_n out_c carry i carry wv_1 R)) ∧
    ((decide ((i : Int) < t20)) = false →
      ∀ (r_2 : Nat) (wv_4 : World), New wv_1 (.cells ⟨[(.int .i64 carry)]⟩ 3 (0, 0)) r_2 wv_4 →
      ∃ (t54_p : Option Addr) (t54_n : Nat) (t54_c : Nat) (wv_5 : World), Appends P [22, 22] [(.slice out_p out_n out_c), (.slice (some ⟨r_2, 0, none⟩) 1 1)] (.slice t54_p t54_n t54_c) wv_4 wv_5 ∧
      Calls P 146 ⟨[(.slice t54_p t54_n t54_c)]⟩ wv_5 fun e wv_6 =>
      ∃ (t55_p : Option Addr) (t55_n : Nat) (t55_c : Nat), e = .returned (.slice t55_p t55_n t55_c) ∧
      R (.slice t55_p t55_n t55_c) wv_6)
theorem impl_natAdd_eq (a_p : Option Addr) (a_n : Nat) (a_c : Nat) (b_p : Option Addr) (b_n : Nat) (b_c : Nat) (w : World) (R : Value → World → Prop) : impl_natAdd a_p a_n a_c b_p b_n b_c w R = fsem P Tryz.f154 (fun k => cond (Nat.beq k 5) [(5, .one .slice), (6, .one (.int .i64)), (7, .one (.int .i64))] ([])) [(.slice a_p a_n a_c), (.slice b_p b_n b_c)] R w := by kernel_rfl
theorem impl_natAdd_ret {a_p : Option Addr} {a_n : Nat} {a_c : Nat} {b_p : Option Addr} {b_n : Nat} {b_c : Nat} {w : World} {R : Value → World → Prop} (h : impl_natAdd a_p a_n a_c b_p b_n b_c w R) : Ret P 154 [(.slice a_p a_n a_c), (.slice b_p b_n b_c)] w R :=
  Ret.of_fsem Tryz.func154 rfl (Eq.mp (impl_natAdd_eq a_p a_n a_c b_p b_n b_c w R) h)
def spec_l08Table (w : World) (R : Value → World → Prop) : Prop :=
  ∀ (r : Nat) (wv : World), New w (.cells ⟨[(.string (S [65, 85, 68])), (.string (S [48, 51, 54])), (.int .i64 2), (.int .i64 5), (.string (S [66, 72, 68])), (.string (S [48, 52, 56])), (.int .i64 3), (.int .i64 5), (.string (S [67, 65, 68])), (.string (S [49, 50, 52])), (.int .i64 2), (.int .i64 5), (.string (S [67, 72, 70])), (.string (S [55, 53, 54])), (.int .i64 2), (.int .i64 5), (.string (S [67, 76, 70])), (.string (S [57, 57, 48])), (.int .i64 4), (.int .i64 1), (.string (S [67, 90, 75])), (.string (S [50, 48, 51])), (.int .i64 2), (.int .i64 100), (.string (S [68, 75, 75])), (.string (S [50, 48, 56])), (.int .i64 2), (.int .i64 50), (.string (S [69, 85, 82])), (.string (S [57, 55, 56])), (.int .i64 2), (.int .i64 1), (.string (S [71, 66, 80])), (.string (S [56, 50, 54])), (.int .i64 2), (.int .i64 1), (.string (S [72, 85, 70])), (.string (S [51, 52, 56])), (.int .i64 2), (.int .i64 500), (.string (S [73, 83, 75])), (.string (S [51, 53, 50])), (.int .i64 0), (.int .i64 1), (.string (S [74, 80, 89])), (.string (S [51, 57, 50])), (.int .i64 0), (.int .i64 1), (.string (S [75, 82, 87])), (.string (S [52, 49, 48])), (.int .i64 0), (.int .i64 10), (.string (S [75, 87, 68])), (.string (S [52, 49, 52])), (.int .i64 3), (.int .i64 5), (.string (S [78, 79, 75])), (.string (S [53, 55, 56])), (.int .i64 2), (.int .i64 100), (.string (S [78, 90, 68])), (.string (S [53, 53, 52])), (.int .i64 2), (.int .i64 10), (.string (S [80, 76, 78])), (.string (S [57, 56, 53])), (.int .i64 2), (.int .i64 1), (.string (S [83, 69, 75])), (.string (S [55, 53, 50])), (.int .i64 2), (.int .i64 100), (.string (S [84, 78, 68])), (.string (S [55, 56, 56])), (.int .i64 3), (.int .i64 10), (.string (S [85, 83, 68])), (.string (S [56, 52, 48])), (.int .i64 2), (.int .i64 1)]⟩ 122 (0, 0)) r wv →
  R (.slice (some ⟨r, 0, none⟩) 20 20) wv
theorem spec_l08Table_eq (w : World) (R : Value → World → Prop) : spec_l08Table w R = fsem P Tryz.f156 (fun k => []) [] R w := by kernel_rfl
theorem spec_l08Table_ret {w : World} {R : Value → World → Prop} (h : spec_l08Table w R) : Ret P 156 [] w R :=
  Ret.of_fsem Tryz.func156 rfl (Eq.mp (spec_l08Table_eq w R) h)
def spec_IntMul (x0 : Bool) (x1_p : Option Addr) (x1_n : Nat) (x1_c : Nat) (y0 : Bool) (y1_p : Option Addr) (y1_n : Nat) (y1_c : Nat) (w : World) (R : Value → World → Prop) : Prop :=
  ∀ (r : Nat) (wv : World), New w (.cells ⟨[(.bool x0), (.slice x1_p x1_n x1_c)]⟩ 31 (0, 0)) r wv →
  ∀ (r_1 : Nat) (wv_1 : World), New wv (.cells ⟨[(.bool y0), (.slice y1_p y1_n y1_c)]⟩ 31 (0, 0)) r_1 wv_1 →
  ∀ (r_2 : Nat) (wv_2 : World), New wv_1 (.cells ⟨[(.bool false), (.slice none 0 0)]⟩ 31 (0, 0)) r_2 wv_2 →
  ∃ (t50 : Bool) (t51_p : Option Addr) (t51_n : Nat) (t51_c : Nat), Loads P 31 ⟨r, 0, none⟩ (.agg #[(.bool t50), (.slice t51_p t51_n t51_c)]) wv_2 ∧ Calls P 82 ⟨[(.agg #[(.bool t50), (.slice t51_p t51_n t51_c)])]⟩ wv_2 fun e wv_3 =>
  ∃ (t6 : Bool), e = .returned (.bool t6) ∧
  ((!t6) = true →
    (true = true →
      ∃ wv_4, Stores P 31 ⟨r_2, 0, none⟩ (.agg #[(.bool false), (.slice none 0 0)]) wv_3 wv_4 ∧
      ∃ (r0 : Bool) (r1_p : Option Addr) (r1_n : Nat) (r1_c : Nat), Loads P 31 ⟨r_2, 0, none⟩ (.agg #[(.bool r0), (.slice r1_p r1_n r1_c)]) wv_4 ∧ R (.agg #[(.bool r0), (.slice r1_p r1_n r1_c)]) wv_4) ∧
    (true = false →
      ∃ (t15 : Bool), (∀ wv_5, Ext wv_3.drew wv_5 → Loads P 4 ((⟨r, 0, none⟩ : Addr).add 0) (.bool t15) wv_5) ∧ ∃ (t17 : Bool), (∀ wv_6, Ext wv_3.drew wv_6 → Loads P 4 ((⟨r_1, 0, none⟩ : Addr).add 0) (.bool t17) wv_6) ∧ ∃ (t20_p : Option Addr) (t20_n : Nat) (t20_c : Nat), (∀ wv_7, Ext wv_3.drew wv_7 → Loads P 22 ((⟨r, 0, none⟩ : Addr).add 1) (.slice t20_p t20_n t20_c) wv_7) ∧ ∃ (t22_p : Option Addr) (t22_n : Nat) (t22_c : Nat), (∀ wv_8, Ext wv_3.drew wv_8 → Loads P 22 ((⟨r_1, 0, none⟩ : Addr).add 1) (.slice t22_p t22_n t22_c) wv_8) ∧ Calls P 87 ⟨[(.slice t20_p t20_n t20_c), (.slice t22_p t22_n t22_c)]⟩ wv_3.drew fun e_1 wv_9 =>
      ∃ (t23_p : Option Addr) (t23_n : Nat) (t23_c : Nat), e_1 = .returned (.slice t23_p t23_n t23_c) ∧
      Ext wv_3.drew wv_9 ∧ Calls P 70 ⟨[(.bool (!(t15 == t17))), (.slice t23_p t23_n t23_c)]⟩ wv_9 fun e_2 wv_10 =>
      ∃ (t240 : Bool) (t241_p : Option Addr) (t241_n : Nat) (t241_c : Nat), e_2 = .returned (.agg #[(.bool t240), (.slice t241_p t241_n t241_c)]) ∧
      ∃ wv_11, Stores P 31 ⟨r_2, 0, none⟩ (.agg #[(.bool t240), (.slice t241_p t241_n t241_c)]) wv_10 wv_11 ∧
      ∃ (r0_1 : Bool) (r1_p_1 : Option Addr) (r1_n_1 : Nat) (r1_c_1 : Nat), Loads P 31 ⟨r_2, 0, none⟩ (.agg #[(.bool r0_1), (.slice r1_p_1 r1_n_1 r1_c_1)]) wv_11 ∧ R (.agg #[(.bool r0_1), (.slice r1_p_1 r1_n_1 r1_c_1)]) wv_11)) ∧
  ((!t6) = false →
    ∃ (t90 : Bool) (t91_p : Option Addr) (t91_n : Nat) (t91_c : Nat), Loads P 31 ⟨r_1, 0, none⟩ (.agg #[(.bool t90), (.slice t91_p t91_n t91_c)]) wv_3 ∧ Calls P 82 ⟨[(.agg #[(.bool t90), (.slice t91_p t91_n t91_c)])]⟩ wv_3 fun e_3 wv_12 =>
    ∃ (t10 : Bool), e_3 = .returned (.bool t10) ∧
    ((!t10) = true →
      ∃ wv_13, Stores P 31 ⟨r_2, 0, none⟩ (.agg #[(.bool false), (.slice none 0 0)]) wv_12 wv_13 ∧
      ∃ (r0_2 : Bool) (r1_p_2 : Option Addr) (r1_n_2 : Nat) (r1_c_2 : Nat), Loads P 31 ⟨r_2, 0, none⟩ (.agg #[(.bool r0_2), (.slice r1_p_2 r1_n_2 r1_c_2)]) wv_13 ∧ R (.agg #[(.bool r0_2), (.slice r1_p_2 r1_n_2 r1_c_2)]) wv_13) ∧
    ((!t10) = false →
      ∃ (t15_1 : Bool), (∀ wv_14, Ext wv_12.drew wv_14 → Loads P 4 ((⟨r, 0, none⟩ : Addr).add 0) (.bool t15_1) wv_14) ∧ ∃ (t17_1 : Bool), (∀ wv_15, Ext wv_12.drew wv_15 → Loads P 4 ((⟨r_1, 0, none⟩ : Addr).add 0) (.bool t17_1) wv_15) ∧ ∃ (t20_p_1 : Option Addr) (t20_n_1 : Nat) (t20_c_1 : Nat), (∀ wv_16, Ext wv_12.drew wv_16 → Loads P 22 ((⟨r, 0, none⟩ : Addr).add 1) (.slice t20_p_1 t20_n_1 t20_c_1) wv_16) ∧ ∃ (t22_p_1 : Option Addr) (t22_n_1 : Nat) (t22_c_1 : Nat), (∀ wv_17, Ext wv_12.drew wv_17 → Loads P 22 ((⟨r_1, 0, none⟩ : Addr).add 1) (.slice t22_p_1 t22_n_1 t22_c_1) wv_17) ∧ Calls P 87 ⟨[(.slice t20_p_1 t20_n_1 t20_c_1), (.slice t22_p_1 t22_n_1 t22_c_1)]⟩ wv_12.drew fun e_4 wv_18 =>
      ∃ (t23_p_1 : Option Addr) (t23_n_1 : Nat) (t23_c_1 : Nat), e_4 = .returned (.slice t23_p_1 t23_n_1 t23_c_1) ∧
      Ext wv_12.drew wv_18 ∧ Calls P 70 ⟨[(.bool (!(t15_1 == t17_1))), (.slice t23_p_1 t23_n_1 t23_c_1)]⟩ wv_18 fun e_5 wv_19 =>
      ∃ (t240_1 : Bool) (t241_p_1 : Option Addr) (t241_n_1 : Nat) (t241_c_1 : Nat), e_5 = .returned (.agg #[(.bool t240_1), (.slice t241_p_1 t241_n_1 t241_c_1)]) ∧
      ∃ wv_20, Stores P 31 ⟨r_2, 0, none⟩ (.agg #[(.bool t240_1), (.slice t241_p_1 t241_n_1 t241_c_1)]) wv_19 wv_20 ∧
      ∃ (r0_3 : Bool) (r1_p_3 : Option Addr) (r1_n_3 : Nat) (r1_c_3 : Nat), Loads P 31 ⟨r_2, 0, none⟩ (.agg #[(.bool r0_3), (.slice r1_p_3 r1_n_3 r1_c_3)]) wv_20 ∧ R (.agg #[(.bool r0_3), (.slice r1_p_3 r1_n_3 r1_c_3)]) wv_20))
theorem spec_IntMul_eq (x0 : Bool) (x1_p : Option Addr) (x1_n : Nat) (x1_c : Nat) (y0 : Bool) (y1_p : Option Addr) (y1_n : Nat) (y1_c : Nat) (w : World) (R : Value → World → Prop) : spec_IntMul x0 x1_p x1_n x1_c y0 y1_p y1_n y1_c w R = fsem P Tryz.f157 (fun k => []) [(.agg #[(.bool x0), (.slice x1_p x1_n x1_c)]), (.agg #[(.bool y0), (.slice y1_p y1_n y1_c)])] R w := by kernel_rfl
theorem spec_IntMul_ret {x0 : Bool} {x1_p : Option Addr} {x1_n : Nat} {x1_c : Nat} {y0 : Bool} {y1_p : Option Addr} {y1_n : Nat} {y1_c : Nat} {w : World} {R : Value → World → Prop} (h : spec_IntMul x0 x1_p x1_n x1_c y0 y1_p y1_n y1_c w R) : Ret P 157 [(.agg #[(.bool x0), (.slice x1_p x1_n x1_c)]), (.agg #[(.bool y0), (.slice y1_p y1_n y1_c)])] w R :=
  Ret.of_fsem Tryz.func157 rfl (Eq.mp (spec_IntMul_eq x0 x1_p x1_n x1_c y0 y1_p y1_n y1_c w R) h)
def spec_l03Small (a_p : Option Addr) (a_n : Nat) (a_c : Nat) (d : Int) (w : World) (R : Value → World → Prop) : Prop :=
  (0 ≤ (((a_n : Nat) : Int) : Int) ∧ (((a_n : Nat) : Int) : Int) ≤ ((a_n : Nat) : Int) ∧ ((8 : Nat) : Int) * ((a_n : Nat) : Int) ≤ 281474976710656) ∧
  ∀ (r : Nat) (wv : World), New w (.cells ⟨zeroRow (.int .i64 0) (a_n * 1)⟩ 3 (0, 0)) r wv →
  ∃ t15 : Int, t15 = IntKind.wrap .i64 (((a_n : Nat) : Int) - 1) ∧ ∃ (Inv : Int → Int → World → Prop) (mu : Int → Int → World → Nat), Inv 0 t15 wv ∧
  ∀ (junk : Fr) (wv_1 : World) (rest : Int) (i : Int), Inv rest i wv_1 →
    ((decide ((0 : Int) ≤ i)) = true →
      ∃ t21 : Int, t21 = IntKind.wrap .i64 (rest * 1000000000) ∧ (0 ≤ (i : Int) ∧ (i : Int) < (a_n : Nat)) ∧ ptrS a_p fun ad => ∃ (t25 : Int), Loads P 3 (ad.add (i.toNat * 1)) (.int .i64 t25) wv_1 ∧ ∃ t26 : Int, t26 = IntKind.wrap .i64 (t21 + t25) ∧ (d : Int) ≠ 0 ∧ ∃ t31 : Int, t31 = IntKind.wrap .i64 (Int.tdiv t26 d) ∧ (0 ≤ (i : Int) ∧ (i : Int) < (a_n : Nat)) ∧ ∃ wv_2, Stores P 3 ((⟨r, 0, none⟩ : Addr).add (i.toNat * 1)) (.int .i64 t31) wv_1 wv_2 ∧
      (d : Int) ≠ 0 ∧ ∃ t35 : Int, t35 = Int.tmod t26 d ∧ ∃ t19 : Int, t19 = IntKind.wrap .i64 (i - 1) ∧ Inv t35 t19 wv_2 ∧ mu t35 t19 wv_2 < mu rest i wv_1) ∧
    ((decide ((0 : Int) ≤ i)) = false →
      Calls P 133 ⟨[(.slice (some ⟨r, 0, none⟩) a_n a_n)]⟩ wv_1 fun e wv_3 =>
      ∃ (t37_p : Option Addr) (t37_n : Nat) (t37_c : Nat), e = .returned (.slice t37_p t37_n t37_c) ∧
      R (.tuple #[(.slice t37_p t37_n t37_c), (.int .i64 rest)]) wv_3)
theorem spec_l03Small_eq (a_p : Option Addr) (a_n : Nat) (a_c : Nat) (d : Int) (w : World) (R : Value → World → Prop) : spec_l03Small a_p a_n a_c d w R = fsem P Tryz.f158 (fun k => cond (Nat.beq k 5) [(7, .one (.int .i64)), (8, .one (.int .i64))] ([])) [(.slice a_p a_n a_c), (.int .i64 d)] R w := by kernel_rfl
theorem spec_l03Small_ret {a_p : Option Addr} {a_n : Nat} {a_c : Nat} {d : Int} {w : World} {R : Value → World → Prop} (h : spec_l03Small a_p a_n a_c d w R) : Ret P 158 [(.slice a_p a_n a_c), (.int .i64 d)] w R :=
  Ret.of_fsem Tryz.func158 rfl (Eq.mp (spec_l03Small_eq a_p a_n a_c d w R) h)
def spec_l03Digit (r_p : Option Addr) (r_n : Nat) (r_c : Nat) (b_p : Option Addr) (b_n : Nat) (b_c : Nat) (w : World) (R : Value → World → Prop) : Prop :=
  ∃ (Inv : Int → Int → World → Prop) (mu : Int → Int → World → Nat), Inv 0 999999999 w ∧
  ∀ (junk : Fr) (wv : World) (lo : Int) (hi : Int), Inv lo hi wv →
    ((decide ((lo : Int) < hi)) = true →
      ∃ t13 : Int, t13 = IntKind.wrap .i64 (lo + hi) ∧ ∃ t14 : Int, t14 = IntKind.wrap .i64 (t13 + 1) ∧ (2 : Int) ≠ 0 ∧ ∃ t15 : Int, t15 = IntKind.wrap .i64 (Int.tdiv t14 2) ∧ Calls P 105 ⟨[(.int .i64 t15)]⟩ wv fun e wv_1 =>
      ∃ (t18_p : Option Addr) (t18_n : Nat) (t18_c : Nat), e = .returned (.slice t18_p t18_n t18_c) ∧
      Calls P 87 ⟨[(.slice b_p b_n b_c), (.slice t18_p t18_n t18_c)]⟩ wv_1 fun e_1 wv_2 =>
      ∃ (t19_p : Option Addr) (t19_n : Nat) (t19_c : Nat), e_1 = .returned (.slice t19_p t19_n t19_c) ∧
      Calls P 115 ⟨[(.slice t19_p t19_n t19_c), (.slice r_p r_n r_c)]⟩ wv_2 fun e_2 wv_3 =>
      ∃ (t21 : Int), e_2 = .returned (.int .i64 t21) ∧
      ((decide ((t21 : Int) ≤ 0)) = true →
        Inv t15 hi wv_3 ∧ mu t15 hi wv_3 < mu lo hi wv) ∧
      ((decide ((t21 : Int) ≤ 0)) = false →
        ∃ t25 : Int, t25 = IntKind.wrap .i64 (t15 - 1) ∧ Inv lo t25 wv_3 ∧ mu lo t25 wv_3 < mu lo hi wv)) ∧
    ((decide ((lo : Int) < hi)) = false →
      R (.int .i64 lo) wv)
theorem spec_l03Digit_eq (r_p : Option Addr) (r_n : Nat) (r_c : Nat) (b_p : Option Addr) (b_n : Nat) (b_c : Nat) (w : World) (R : Value → World → Prop) : spec_l03Digit r_p r_n r_c b_p b_n b_c w R = fsem P Tryz.f159 (fun k => cond (Nat.beq k 4) [(5, .one (.int .i64)), (6, .one (.int .i64))] ([])) [(.slice r_p r_n r_c), (.slice b_p b_n b_c)] R w := by kernel_rfl
theorem spec_l03Digit_ret {r_p : Option Addr} {r_n : Nat} {r_c : Nat} {b_p : Option Addr} {b_n : Nat} {b_c : Nat} {w : World} {R : Value → World → Prop} (h : spec_l03Digit r_p r_n r_c b_p b_n b_c w R) : Ret P 159 [(.slice r_p r_n r_c), (.slice b_p b_n b_c)] w R :=
  Ret.of_fsem Tryz.func159 rfl (Eq.mp (spec_l03Digit_eq r_p r_n r_c b_p b_n b_c w R) h)
def spec_l06Mode (m : Int) (w : World) (R : Value → World → Prop) : Prop :=
  Calls P 130 ⟨[(.int .i64 m), (.int .i64 0), (.int .i64 6)]⟩ w fun e wv =>
  ∃ (t4 : Bool), e = .returned (.bool t4) ∧
  R (.bool t4) wv
theorem spec_l06Mode_eq (m : Int) (w : World) (R : Value → World → Prop) : spec_l06Mode m w R = fsem P Tryz.f160 (fun k => []) [(.int .i64 m)] R w := by kernel_rfl
theorem spec_l06Mode_ret {m : Int} {w : World} {R : Value → World → Prop} (h : spec_l06Mode m w R) : Ret P 160 [(.int .i64 m)] w R :=
  Ret.of_fsem Tryz.func160 rfl (Eq.mp (spec_l06Mode_eq m w R) h)
def spec_l06Round_j0 (r : Nat) (r_1 : Nat) (q_p : Option Addr) (q_n : Nat) (q_c : Nat) (W : World) (R : Value → World → Prop) : Prop :=
  ∃ (t35 : Bool), Loads P 4 (((⟨r, 0, none⟩ : Addr).add 0).add 0) (.bool t35) W ∧ Calls P 70 ⟨[(.bool t35), (.slice q_p q_n q_c)]⟩ W fun e_3 wv_6 =>
  ∃ (t370 : Bool) (t371_p : Option Addr) (t371_n : Nat) (t371_c : Nat), e_3 = .returned (.agg #[(.bool t370), (.slice t371_p t371_n t371_c)]) ∧
  ∃ wv_7, Stores P 31 ⟨r_1, 0, none⟩ (.agg #[(.bool t370), (.slice t371_p t371_n t371_c)]) wv_6 wv_7 ∧
  ∃ (r0_1 : Bool) (r1_p_1 : Option Addr) (r1_n_1 : Nat) (r1_c_1 : Nat), Loads P 31 ⟨r_1, 0, none⟩ (.agg #[(.bool r0_1), (.slice r1_p_1 r1_n_1 r1_c_1)]) wv_7 ∧ R (.agg #[(.bool r0_1), (.slice r1_p_1 r1_n_1 r1_c_1)]) wv_7
def spec_l06Round (r0 : Bool) (r1_p : Option Addr) (r1_n : Nat) (r1_c : Nat) (r2_p : Option Addr) (r2_n : Nat) (r2_c : Nat) (m : Int) (w : World) (R : Value → World → Prop) : Prop :=
  ∀ (r : Nat) (wv : World), New w (.cells ⟨[(.bool r0), (.slice r1_p r1_n r1_c), (.slice r2_p r2_n r2_c)]⟩ 35 (0, 0)) r wv →
  ∀ (r_1 : Nat) (wv_1 : World), New wv (.cells ⟨[(.bool false), (.slice none 0 0)]⟩ 31 (0, 0)) r_1 wv_1 →
  ∃ (t10_p : Option Addr) (t10_n : Nat) (t10_c : Nat), Loads P 22 (((⟨r, 0, none⟩ : Addr).add 0).add 1) (.slice t10_p t10_n t10_c) wv_1 ∧ ∃ (t12_p : Option Addr) (t12_n : Nat) (t12_c : Nat), Loads P 22 ((⟨r, 0, none⟩ : Addr).add 2) (.slice t12_p t12_n t12_c) wv_1 ∧ Calls P 135 ⟨[(.slice t10_p t10_n t10_c), (.slice t12_p t12_n t12_c)]⟩ wv_1 fun e wv_2 =>
  ∃ (t13_p : Option Addr) (t13_n : Nat) (t13_c : Nat) (t13_p_1 : Option Addr) (t13_n_1 : Nat) (t13_c_1 : Nat), e = .returned (.tuple #[(.slice t13_p t13_n t13_c), (.slice t13_p_1 t13_n_1 t13_c_1)]) ∧
  ((decide ((0 : Int) < ((t13_n_1 : Nat) : Int))) = true →
    ∃ (t22 : Bool), Loads P 4 (((⟨r, 0, none⟩ : Addr).add 0).add 0) (.bool t22) wv_2 ∧ ∃ (t26_p : Option Addr) (t26_n : Nat) (t26_c : Nat), Loads P 22 ((⟨r, 0, none⟩ : Addr).add 2) (.slice t26_p t26_n t26_c) wv_2 ∧ Calls P 169 ⟨[(.bool t22), (.slice t13_p t13_n t13_c), (.slice t13_p_1 t13_n_1 t13_c_1), (.slice t26_p t26_n t26_c), (.int .i64 m)]⟩ wv_2 fun e_1 wv_3 =>
    ∃ (t28 : Bool), e_1 = .returned (.bool t28) ∧
    (t28 = true →
      ∀ (r_2 : Nat) (wv_4 : World), New wv_3 (.cells ⟨[(.int .i64 1)]⟩ 3 (0, 0)) r_2 wv_4 →
      Calls P 150 ⟨[(.slice t13_p t13_n t13_c), (.slice (some ⟨r_2, 0, none⟩) 1 1)]⟩ wv_4 fun e_2 wv_5 =>
      ∃ (t32_p : Option Addr) (t32_n : Nat) (t32_c : Nat), e_2 = .returned (.slice t32_p t32_n t32_c) ∧
      spec_l06Round_j0 r r_1 t32_p t32_n t32_c wv_5 R) ∧
    (t28 = false →
      spec_l06Round_j0 r r_1 t13_p t13_n t13_c wv_3 R)) ∧
  ((decide ((0 : Int) < ((t13_n_1 : Nat) : Int))) = false →
    (false = true →
      ∀ (r_3 : Nat) (wv_8 : World), New wv_2 (.cells ⟨[(.int .i64 1)]⟩ 3 (0, 0)) r_3 wv_8 →
      Calls P 150 ⟨[(.slice t13_p t13_n t13_c), (.slice (some ⟨r_3, 0, none⟩) 1 1)]⟩ wv_8 fun e_4 wv_9 =>
      ∃ (t32_p_1 : Option Addr) (t32_n_1 : Nat) (t32_c_1 : Nat), e_4 = .returned (.slice t32_p_1 t32_n_1 t32_c_1) ∧
      spec_l06Round_j0 r r_1 t32_p_1 t32_n_1 t32_c_1 wv_9 R) ∧
    (false = false →
      spec_l06Round_j0 r r_1 t13_p t13_n t13_c wv_2 R))
theorem spec_l06Round_eq (r0 : Bool) (r1_p : Option Addr) (r1_n : Nat) (r1_c : Nat) (r2_p : Option Addr) (r2_n : Nat) (r2_c : Nat) (m : Int) (w : World) (R : Value → World → Prop) : spec_l06Round r0 r1_p r1_n r1_c r2_p r2_n r2_c m w R = fsem P Tryz.f161 (fun k => []) [(.agg #[(.bool r0), (.slice r1_p r1_n r1_c), (.slice r2_p r2_n r2_c)]), (.int .i64 m)] R w := by kernel_rfl
theorem spec_l06Round_ret {r0 : Bool} {r1_p : Option Addr} {r1_n : Nat} {r1_c : Nat} {r2_p : Option Addr} {r2_n : Nat} {r2_c : Nat} {m : Int} {w : World} {R : Value → World → Prop} (h : spec_l06Round r0 r1_p r1_n r1_c r2_p r2_n r2_c m w R) : Ret P 161 [(.agg #[(.bool r0), (.slice r1_p r1_n r1_c), (.slice r2_p r2_n r2_c)]), (.int .i64 m)] w R :=
  Ret.of_fsem Tryz.func161 rfl (Eq.mp (spec_l06Round_eq r0 r1_p r1_n r1_c r2_p r2_n r2_c m w R) h)
def spec_RatNeg (r0 : Bool) (r1_p : Option Addr) (r1_n : Nat) (r1_c : Nat) (r2_p : Option Addr) (r2_n : Nat) (r2_c : Nat) (w : World) (R : Value → World → Prop) : Prop :=
  ∀ (r : Nat) (wv : World), New w (.cells ⟨[(.bool r0), (.slice r1_p r1_n r1_c), (.slice r2_p r2_n r2_c)]⟩ 35 (0, 0)) r wv →
  ∀ (r_1 : Nat) (wv_1 : World), New wv (.cells ⟨[(.bool false), (.slice none 0 0), (.slice none 0 0)]⟩ 35 (0, 0)) r_1 wv_1 →
  ∃ (t40 : Bool) (t41_p : Option Addr) (t41_n : Nat) (t41_c : Nat) (t42_p : Option Addr) (t42_n : Nat) (t42_c : Nat), Loads P 35 ⟨r, 0, none⟩ (.agg #[(.bool t40), (.slice t41_p t41_n t41_c), (.slice t42_p t42_n t42_c)]) wv_1 ∧ Calls P 85 ⟨[(.agg #[(.bool t40), (.slice t41_p t41_n t41_c), (.slice t42_p t42_n t42_c)])]⟩ wv_1 fun e wv_2 =>
  ∃ (t5 : Bool), e = .returned (.bool t5) ∧
  ((!t5) = true →
    ∃ wv_3, Stores P 35 ⟨r_1, 0, none⟩ (.agg #[(.bool false), (.slice none 0 0), (.slice none 0 0)]) wv_2 wv_3 ∧
    ∃ (r0_1 : Bool) (r1_p_1 : Option Addr) (r1_n_1 : Nat) (r1_c_1 : Nat) (r2_p_1 : Option Addr) (r2_n_1 : Nat) (r2_c_1 : Nat), Loads P 35 ⟨r_1, 0, none⟩ (.agg #[(.bool r0_1), (.slice r1_p_1 r1_n_1 r1_c_1), (.slice r2_p_1 r2_n_1 r2_c_1)]) wv_3 ∧ R (.tuple #[(.agg #[(.bool r0_1), (.slice r1_p_1 r1_n_1 r1_c_1), (.slice r2_p_1 r2_n_1 r2_c_1)]), (.bool false)]) wv_3) ∧
  ((!t5) = false →
    ∃ (t90 : Bool) (t91_p : Option Addr) (t91_n : Nat) (t91_c : Nat), (∀ wv_4, Ext wv_2.drew wv_4 → Loads P 31 ((⟨r, 0, none⟩ : Addr).add 0) (.agg #[(.bool t90), (.slice t91_p t91_n t91_c)]) wv_4) ∧ ∀ (ss : List (Option Nat)) (wv_5 : World), Fl [.cells ⟨[]⟩ 3 (0, 0)] [none] wv_2.drew ss wv_5 →
    Calls P 152 ⟨[(.agg #[(.bool t90), (.slice t91_p t91_n t91_c)])]⟩ wv_5 fun e_1 wv_6 =>
    ∃ (t100 : Bool) (t101_p : Option Addr) (t101_n : Nat) (t101_c : Nat), e_1 = .returned (.agg #[(.bool t100), (.slice t101_p t101_n t101_c)]) ∧
    Ext wv_5 wv_6 ∧ ∃ (t13_p : Option Addr) (t13_n : Nat) (t13_c : Nat), (∀ wv_7, Ext wv_2.drew wv_7 → Loads P 22 ((⟨r, 0, none⟩ : Addr).add 2) (.slice t13_p t13_n t13_c) wv_7) ∧ ∀ (ss_1 : List (Option Nat)) (wv_8 : World) (r_2 : Nat), Fl [.cells ⟨[]⟩ 3 (0, 0)] ss wv_6 ss_1 wv_8 → ss_1[0]? = some (some r_2) →
    ∃ (t14_p : Option Addr) (t14_n : Nat) (t14_c : Nat) (wv_9 : World), Appends P [22, 22] [(.slice (some ⟨r_2, 0, none⟩) 0 0), (.slice t13_p t13_n t13_c)] (.slice t14_p t14_n t14_c) wv_8 wv_9 ∧
    ∃ wv_10, Stores P 35 ⟨r_1, 0, none⟩ (.agg #[(.bool t100), (.slice t101_p t101_n t101_c), (.slice t14_p t14_n t14_c)]) wv_9 wv_10 ∧
    ∃ (r0_2 : Bool) (r1_p_2 : Option Addr) (r1_n_2 : Nat) (r1_c_2 : Nat) (r2_p_2 : Option Addr) (r2_n_2 : Nat) (r2_c_2 : Nat), Loads P 35 ⟨r_1, 0, none⟩ (.agg #[(.bool r0_2), (.slice r1_p_2 r1_n_2 r1_c_2), (.slice r2_p_2 r2_n_2 r2_c_2)]) wv_10 ∧ R (.tuple #[(.agg #[(.bool r0_2), (.slice r1_p_2 r1_n_2 r1_c_2), (.slice r2_p_2 r2_n_2 r2_c_2)]), (.bool true)]) wv_10)
theorem spec_RatNeg_eq (r0 : Bool) (r1_p : Option Addr) (r1_n : Nat) (r1_c : Nat) (r2_p : Option Addr) (r2_n : Nat) (r2_c : Nat) (w : World) (R : Value → World → Prop) : spec_RatNeg r0 r1_p r1_n r1_c r2_p r2_n r2_c w R = fsem P Tryz.f162 (fun k => []) [(.agg #[(.bool r0), (.slice r1_p r1_n r1_c), (.slice r2_p r2_n r2_c)])] R w := by kernel_rfl
theorem spec_RatNeg_ret {r0 : Bool} {r1_p : Option Addr} {r1_n : Nat} {r1_c : Nat} {r2_p : Option Addr} {r2_n : Nat} {r2_c : Nat} {w : World} {R : Value → World → Prop} (h : spec_RatNeg r0 r1_p r1_n r1_c r2_p r2_n r2_c w R) : Ret P 162 [(.agg #[(.bool r0), (.slice r1_p r1_n r1_c), (.slice r2_p r2_n r2_c)])] w R :=
  Ret.of_fsem Tryz.func162 rfl (Eq.mp (spec_RatNeg_eq r0 r1_p r1_n r1_c r2_p r2_n r2_c w R) h)
def impl_scaled_1 (d0 : Bool) (d1_p : Option Addr) (d1_n : Nat) (d1_c : Nat) (d2 : Int) (cap0 : Option Addr) (w : World) (R : Value → World → Prop) : Prop :=
  ∀ (r : Nat) (wv : World), New w (.cells ⟨[(.bool d0), (.slice d1_p d1_n d1_c), (.int .i64 d2)]⟩ 40 (0, 0)) r wv →
  ∀ (r_1 : Nat) (wv_1 : World), New wv (.cells ⟨[(.bool false), (.slice none 0 0)]⟩ 31 (0, 0)) r_1 wv_1 →
  ∃ (t6 : Bool), (∀ wv_2, Ext wv_1.drew wv_2 → Loads P 4 (((⟨r, 0, none⟩ : Addr).add 0).add 0) (.bool t6) wv_2) ∧ ∃ (t9_p : Option Addr) (t9_n : Nat) (t9_c : Nat), (∀ wv_3, Ext wv_1.drew wv_3 → Loads P 22 (((⟨r, 0, none⟩ : Addr).add 0).add 1) (.slice t9_p t9_n t9_c) wv_3) ∧ ptrS cap0 fun ad => ∃ (t10 : Int), (∀ wv_4, Ext wv_1.drew wv_4 → Loads P 3 ad (.int .i64 t10) wv_4) ∧ ∃ (t12 : Int), (∀ wv_5, Ext wv_1.drew wv_5 → Loads P 3 ((⟨r, 0, none⟩ : Addr).add 2) (.int .i64 t12) wv_5) ∧ ∃ t13 : Int, t13 = IntKind.wrap .i64 (t10 - t12) ∧ Calls P 102 ⟨[(.int .i64 t13)]⟩ wv_1.drew fun e wv_6 =>
  ∃ (t14_p : Option Addr) (t14_n : Nat) (t14_c : Nat), e = .returned (.slice t14_p t14_n t14_c) ∧
  Ext wv_1.drew wv_6 ∧ Calls P 100 ⟨[(.slice t9_p t9_n t9_c), (.slice t14_p t14_n t14_c)]⟩ wv_6 fun e_1 wv_7 =>
  ∃ (t15_p : Option Addr) (t15_n : Nat) (t15_c : Nat), e_1 = .returned (.slice t15_p t15_n t15_c) ∧
  Ext wv_6 wv_7 ∧ Calls P 112 ⟨[(.bool t6), (.slice t15_p t15_n t15_c)]⟩ wv_7 fun e_2 wv_8 =>
  ∃ (t160 : Bool) (t161_p : Option Addr) (t161_n : Nat) (t161_c : Nat), e_2 = .returned (.agg #[(.bool t160), (.slice t161_p t161_n t161_c)]) ∧
  ∃ wv_9, Stores P 31 ⟨r_1, 0, none⟩ (.agg #[(.bool t160), (.slice t161_p t161_n t161_c)]) wv_8 wv_9 ∧
  ∃ (r0 : Bool) (r1_p : Option Addr) (r1_n : Nat) (r1_c : Nat), Loads P 31 ⟨r_1, 0, none⟩ (.agg #[(.bool r0), (.slice r1_p r1_n r1_c)]) wv_9 ∧ R (.agg #[(.bool r0), (.slice r1_p r1_n r1_c)]) wv_9
theorem impl_scaled_1_eq (d0 : Bool) (d1_p : Option Addr) (d1_n : Nat) (d1_c : Nat) (d2 : Int) (cap0 : Option Addr) (w : World) (R : Value → World → Prop) : impl_scaled_1 d0 d1_p d1_n d1_c d2 cap0 w R = fsem P Tryz.f163 (fun k => []) [(.agg #[(.bool d0), (.slice d1_p d1_n d1_c), (.int .i64 d2)]), (.pointer cap0)] R w := by kernel_rfl
theorem impl_scaled_1_ret {d0 : Bool} {d1_p : Option Addr} {d1_n : Nat} {d1_c : Nat} {d2 : Int} {cap0 : Option Addr} {w : World} {R : Value → World → Prop} (h : impl_scaled_1 d0 d1_p d1_n d1_c d2 cap0 w R) : Ret P 163 [(.agg #[(.bool d0), (.slice d1_p d1_n d1_c), (.int .i64 d2)]), (.pointer cap0)] w R :=
  Ret.of_fsem Tryz.func163 rfl (Eq.mp (impl_scaled_1_eq d0 d1_p d1_n d1_c d2 cap0 w R) h)
end Go.Proofs.YtfemmmbkhhemaaaGreatDoor

namespace Go.Proofs.YtfemmmbkhhemaaaGreatDoor
open Go Go.Proofs.YtfemmmbkhhemaaaGreatDoor.Sx
set_option linter.unusedVariables false
set_option maxRecDepth 100000
def impl_natSmall (a_p : Option Addr) (a_n : Nat) (a_c : Nat) (d : Int) (w : World) (R : Value → World → Prop) : Prop :=
  (0 ≤ (((a_n : Nat) : Int) : Int) ∧ (((a_n : Nat) : Int) : Int) ≤ ((a_n : Nat) : Int) ∧ ((8 : Nat) : Int) * ((a_n : Nat) : Int) ≤ 281474976710656) ∧
  ∀ (r : Nat) (wv : World), New w (.cells ⟨zeroRow (.int .i64 0) (a_n * 1)⟩ 3 (0, 0)) r wv →
  ∃ t14 : Int, t14 = IntKind.wrap .i64 (((a_n : Nat) : Int) - 1) ∧ ∃ (Inv : Int → Int → World → Prop) (mu : Int → Int → World → Nat), Inv 0 t14 wv ∧
  ∀ (junk : Fr) (wv_1 : World) (rest : Int) (i : Int), Inv rest i wv_1 →
    ((decide ((0 : Int) ≤ i)) = true →
      ∃ t20 : Int, t20 = IntKind.wrap .i64 (rest * 1000000000) ∧ (0 ≤ (i : Int) ∧ (i : Int) < (a_n : Nat)) ∧ ptrS a_p fun ad => ∃ (t24 : Int), Loads P 3 (ad.add (i.toNat * 1)) (.int .i64 t24) wv_1 ∧ ∃ t25 : Int, t25 = IntKind.wrap .i64 (t20 + t24) ∧ (d : Int) ≠ 0 ∧ ∃ t30 : Int, t30 = IntKind.wrap .i64 (Int.tdiv t25 d) ∧ (0 ≤ (i : Int) ∧ (i : Int) < (a_n : Nat)) ∧ ∃ wv_2, Stores P 3 ((⟨r, 0, none⟩ : Addr).add (i.toNat * 1)) (.int .i64 t30) wv_1 wv_2 ∧
      (d : Int) ≠ 0 ∧ ∃ t34 : Int, t34 = Int.tmod t25 d ∧ ∃ t18 : Int, t18 = IntKind.wrap .i64 (i - 1) ∧ Inv t34 t18 wv_2 ∧ mu t34 t18 wv_2 < mu rest i wv_1) ∧
    ((decide ((0 : Int) ≤ i)) = false →
      Calls P 146 ⟨[(.slice (some ⟨r, 0, none⟩) a_n a_n)]⟩ wv_1 fun e wv_3 =>
      ∃ (t36_p : Option Addr) (t36_n : Nat) (t36_c : Nat), e = .returned (.slice t36_p t36_n t36_c) ∧
      R (.tuple #[(.slice t36_p t36_n t36_c), (.int .i64 rest)]) wv_3)
theorem impl_natSmall_eq (a_p : Option Addr) (a_n : Nat) (a_c : Nat) (d : Int) (w : World) (R : Value → World → Prop) : impl_natSmall a_p a_n a_c d w R = fsem P Tryz.f164 (fun k => cond (Nat.beq k 5) [(7, .one (.int .i64)), (8, .one (.int .i64))] ([])) [(.slice a_p a_n a_c), (.int .i64 d)] R w := by kernel_rfl
theorem impl_natSmall_ret {a_p : Option Addr} {a_n : Nat} {a_c : Nat} {d : Int} {w : World} {R : Value → World → Prop} (h : impl_natSmall a_p a_n a_c d w R) : Ret P 164 [(.slice a_p a_n a_c), (.int .i64 d)] w R :=
  Ret.of_fsem Tryz.func164 rfl (Eq.mp (impl_natSmall_eq a_p a_n a_c d w R) h)
def impl_divStep_j0 (q_1 : Int) (W : World) (R : Value → World → Prop) : Prop :=
  R (.int .i64 q_1) W
def impl_divStep_j1 (q_2 : Int) (W_1 : World) (R : Value → World → Prop) : Prop :=
  R (.int .i64 q_2) W_1
def impl_divStep_j2 (q_3 : Int) (W_2 : World) (R : Value → World → Prop) : Prop :=
  R (.int .i64 q_3) W_2
def impl_divStep_j3 (q_4 : Int) (W_3 : World) (R : Value → World → Prop) : Prop :=
  R (.int .i64 q_4) W_3
def impl_divStep (u_p : Option Addr) (u_n : Nat) (u_c : Nat) (v_p : Option Addr) (v_n : Nat) (v_c : Nat) (w : World) (R : Value → World → Prop) : Prop :=
  (0 ≤ (((v_n : Nat) : Int) : Int) ∧ (((v_n : Nat) : Int) : Int) < (u_n : Nat)) ∧ ptrS u_p fun ad => ∃ (t13 : Int), (∀ wv, Ext w.drew wv → Loads P 3 (ad.add (v_n * 1)) (.int .i64 t13) wv) ∧ ∃ t14 : Int, t14 = IntKind.wrap .i64 (t13 * 1000000000) ∧ ∃ t17 : Int, t17 = IntKind.wrap .i64 (((v_n : Nat) : Int) - 1) ∧ (0 ≤ (t17 : Int) ∧ (t17 : Int) < (u_n : Nat)) ∧ ptrS u_p fun ad_1 => ∃ (t19 : Int), (∀ wv_1, Ext w.drew wv_1 → Loads P 3 (ad_1.add (t17.toNat * 1)) (.int .i64 t19) wv_1) ∧ ∃ t20 : Int, t20 = IntKind.wrap .i64 (t14 + t19) ∧ ∃ t24 : Int, t24 = IntKind.wrap .i64 (((v_n : Nat) : Int) - 1) ∧ (0 ≤ (t24 : Int) ∧ (t24 : Int) < (v_n : Nat)) ∧ ptrS v_p fun ad_2 => ∃ (t26 : Int), Loads P 3 (ad_2.add (t24.toNat * 1)) (.int .i64 t26) w.drew ∧ (t26 : Int) ≠ 0 ∧ ∃ t27 : Int, t27 = IntKind.wrap .i64 (Int.tdiv t20 t26) ∧ ∃ t28 : Int, t28 = (if 999999999 < t27 then 999999999 else t27) ∧ ∃ (Inv : Int → World → Prop) (mu : Int → World → Nat), Inv t28 w.drew ∧
  ∀ (junk : Fr) (wv_2 : World) (q : Int), Inv q wv_2 →
    ((decide ((0 : Int) < q)) = true →
      ∃ t36 : Int, t36 = IntKind.wrap .i64 (((v_n : Nat) : Int) - 1) ∧ (0 ≤ (t36 : Int) ∧ (t36 : Int) < (v_n : Nat)) ∧ ptrS v_p fun ad_3 => ∃ (t38 : Int), (∀ wv_3, Ext wv_2.drew wv_3 → Loads P 3 (ad_3.add (t36.toNat * 1)) (.int .i64 t38) wv_3) ∧ ∃ t39 : Int, t39 = IntKind.wrap .i64 (q * t38) ∧ ∃ t40 : Int, t40 = IntKind.wrap .i64 (t20 - t39) ∧ ((decide ((t40 : Int) < 1000000000)) = true →
        ∃ t47 : Int, t47 = IntKind.wrap .i64 (((v_n : Nat) : Int) - 2) ∧ (0 ≤ (t47 : Int) ∧ (t47 : Int) < (v_n : Nat)) ∧ ptrS v_p fun ad_4 => ∃ (t49 : Int), (∀ wv_4, Ext wv_2.drew wv_4 → Loads P 3 (ad_4.add (t47.toNat * 1)) (.int .i64 t49) wv_4) ∧ ∃ t50 : Int, t50 = IntKind.wrap .i64 (q * t49) ∧ ∃ t55 : Int, t55 = IntKind.wrap .i64 (((v_n : Nat) : Int) - 1) ∧ (0 ≤ (t55 : Int) ∧ (t55 : Int) < (v_n : Nat)) ∧ ptrS v_p fun ad_5 => ∃ (t57 : Int), (∀ wv_5, Ext wv_2.drew wv_5 → Loads P 3 (ad_5.add (t55.toNat * 1)) (.int .i64 t57) wv_5) ∧ ∃ t58 : Int, t58 = IntKind.wrap .i64 (q * t57) ∧ ∃ t59 : Int, t59 = IntKind.wrap .i64 (t20 - t58) ∧ ∃ t60 : Int, t60 = IntKind.wrap .i64 (t59 * 1000000000) ∧ ∃ t63 : Int, t63 = IntKind.wrap .i64 (((v_n : Nat) : Int) - 2) ∧ (0 ≤ (t63 : Int) ∧ (t63 : Int) < (u_n : Nat)) ∧ ptrS u_p fun ad_6 => ∃ (t65 : Int), (∀ wv_6, Ext wv_2.drew wv_6 → Loads P 3 (ad_6.add (t63.toNat * 1)) (.int .i64 t65) wv_6) ∧ ∃ t66 : Int, t66 = IntKind.wrap .i64 (t60 + t65) ∧ ((decide ((t66 : Int) < t50)) = true →
          ∃ t70 : Int, t70 = IntKind.wrap .i64 (q - 1) ∧ Inv t70 wv_2.drew ∧ mu t70 wv_2.drew < mu q wv_2) ∧
        ((decide ((t66 : Int) < t50)) = false →
          Calls P 170 ⟨[(.slice u_p u_n u_c), (.slice v_p v_n v_c), (.int .i64 q)]⟩ wv_2.drew fun e wv_7 =>
          ∃ (t74 : Bool), e = .returned (.bool t74) ∧
          (t74 = true →
            ∃ t76 : Int, t76 = IntKind.wrap .i64 (q - 1) ∧ Calls P 171 ⟨[(.slice u_p u_n u_c), (.slice v_p v_n v_c)]⟩ wv_7 fun e_1 wv_8 =>
            e_1 = .returned (.tuple #[]) ∧
            impl_divStep_j0 t76 wv_8 R) ∧
          (t74 = false →
            impl_divStep_j0 q wv_7 R))) ∧
      ((decide ((t40 : Int) < 1000000000)) = false →
        (false = true →
          ∃ t70_1 : Int, t70_1 = IntKind.wrap .i64 (q - 1) ∧ Inv t70_1 wv_2.drew ∧ mu t70_1 wv_2.drew < mu q wv_2) ∧
        (false = false →
          Calls P 170 ⟨[(.slice u_p u_n u_c), (.slice v_p v_n v_c), (.int .i64 q)]⟩ wv_2.drew fun e_2 wv_9 =>
          ∃ (t74_1 : Bool), e_2 = .returned (.bool t74_1) ∧
          (t74_1 = true →
            ∃ t76_1 : Int, t76_1 = IntKind.wrap .i64 (q - 1) ∧ Calls P 171 ⟨[(.slice u_p u_n u_c), (.slice v_p v_n v_c)]⟩ wv_9 fun e_3 wv_10 =>
            e_3 = .returned (.tuple #[]) ∧
            impl_divStep_j1 t76_1 wv_10 R) ∧
          (t74_1 = false →
            impl_divStep_j1 q wv_9 R)))) ∧
    ((decide ((0 : Int) < q)) = false →
      (false = true →
        ∃ t47_1 : Int, t47_1 = IntKind.wrap .i64 (((v_n : Nat) : Int) - 2) ∧ (0 ≤ (t47_1 : Int) ∧ (t47_1 : Int) < (v_n : Nat)) ∧ ptrS v_p fun ad_7 => ∃ (t49_1 : Int), (∀ wv_11, Ext wv_2.drew wv_11 → Loads P 3 (ad_7.add (t47_1.toNat * 1)) (.int .i64 t49_1) wv_11) ∧ ∃ t50_1 : Int, t50_1 = IntKind.wrap .i64 (q * t49_1) ∧ ∃ t55_1 : Int, t55_1 = IntKind.wrap .i64 (((v_n : Nat) : Int) - 1) ∧ (0 ≤ (t55_1 : Int) ∧ (t55_1 : Int) < (v_n : Nat)) ∧ ptrS v_p fun ad_8 => ∃ (t57_1 : Int), (∀ wv_12, Ext wv_2.drew wv_12 → Loads P 3 (ad_8.add (t55_1.toNat * 1)) (.int .i64 t57_1) wv_12) ∧ ∃ t58_1 : Int, t58_1 = IntKind.wrap .i64 (q * t57_1) ∧ ∃ t59_1 : Int, t59_1 = IntKind.wrap .i64 (t20 - t58_1) ∧ ∃ t60_1 : Int, t60_1 = IntKind.wrap .i64 (t59_1 * 1000000000) ∧ ∃ t63_1 : Int, t63_1 = IntKind.wrap .i64 (((v_n : Nat) : Int) - 2) ∧ (0 ≤ (t63_1 : Int) ∧ (t63_1 : Int) < (u_n : Nat)) ∧ ptrS u_p fun ad_9 => ∃ (t65_1 : Int), (∀ wv_13, Ext wv_2.drew wv_13 → Loads P 3 (ad_9.add (t63_1.toNat * 1)) (.int .i64 t65_1) wv_13) ∧ ∃ t66_1 : Int, t66_1 = IntKind.wrap .i64 (t60_1 + t65_1) ∧ ((decide ((t66_1 : Int) < t50_1)) = true →
          ∃ t70_2 : Int, t70_2 = IntKind.wrap .i64 (q - 1) ∧ Inv t70_2 wv_2.drew ∧ mu t70_2 wv_2.drew < mu q wv_2) ∧
        ((decide ((t66_1 : Int) < t50_1)) = false →
          Calls P 170 ⟨[(.slice u_p u_n u_c), (.slice v_p v_n v_c), (.int .i64 q)]⟩ wv_2.drew fun e_4 wv_14 =>
          ∃ (t74_2 : Bool), e_4 = .returned (.bool t74_2) ∧
          (t74_2 = true →
            ∃ t76_2 : Int, t76_2 = IntKind.wrap .i64 (q - 1) ∧ Calls P 171 ⟨[(.slice u_p u_n u_c), (.slice v_p v_n v_c)]⟩ wv_14 fun e_5 wv_15 =>
            e_5 = .returned (.tuple #[]) ∧
            impl_divStep_j2 t76_2 wv_15 R) ∧
          (t74_2 = false →
            impl_divStep_j2 q wv_14 R))) ∧
      (false = false →
        (false = true →
          ∃ t70_3 : Int, t70_3 = IntKind.wrap .i64 (q - 1) ∧ Inv t70_3 wv_2.drew ∧ mu t70_3 wv_2.drew < mu q wv_2) ∧
        (false = false →
          Calls P 170 ⟨[(.slice u_p u_n u_c), (.slice v_p v_n v_c), (.int .i64 q)]⟩ wv_2.drew fun e_6 wv_16 =>
          ∃ (t74_3 : Bool), e_6 = .returned (.bool t74_3) ∧
          (t74_3 = true →
            ∃ t76_3 : Int, t76_3 = IntKind.wrap .i64 (q - 1) ∧ Calls P 171 ⟨[(.slice u_p u_n u_c), (.slice v_p v_n v_c)]⟩ wv_16 fun e_7 wv_17 =>
            e_7 = .returned (.tuple #[]) ∧
            impl_divStep_j3 t76_3 wv_17 R) ∧
          (t74_3 = false →
            impl_divStep_j3 q wv_16 R))))
theorem impl_divStep_eq (u_p : Option Addr) (u_n : Nat) (u_c : Nat) (v_p : Option Addr) (v_n : Nat) (v_c : Nat) (w : World) (R : Value → World → Prop) : impl_divStep u_p u_n u_c v_p v_n v_c w R = fsem P Tryz.f165 (fun k => cond (Nat.beq k 5) [(7, .one (.int .i64))] ([])) [(.slice u_p u_n u_c), (.slice v_p v_n v_c)] R w := by kernel_rfl
theorem impl_divStep_ret {u_p : Option Addr} {u_n : Nat} {u_c : Nat} {v_p : Option Addr} {v_n : Nat} {v_c : Nat} {w : World} {R : Value → World → Prop} (h : impl_divStep u_p u_n u_c v_p v_n v_c w R) : Ret P 165 [(.slice u_p u_n u_c), (.slice v_p v_n v_c)] w R :=
  Ret.of_fsem Tryz.func165 rfl (Eq.mp (impl_divStep_eq u_p u_n u_c v_p v_n v_c w R) h)
def impl_isMode (m : Int) (w : World) (R : Value → World → Prop) : Prop :=
  ((decide ((0 : Int) ≤ m)) = true →
    R (.bool (decide ((m : Int) ≤ 6))) w) ∧
  ((decide ((0 : Int) ≤ m)) = false →
    R (.bool false) w)
theorem impl_isMode_eq (m : Int) (w : World) (R : Value → World → Prop) : impl_isMode m w R = fsem P Tryz.f166 (fun k => []) [(.int .i64 m)] R w := by kernel_rfl
theorem impl_isMode_ret {m : Int} {w : World} {R : Value → World → Prop} (h : impl_isMode m w R) : Ret P 166 [(.int .i64 m)] w R :=
  Ret.of_fsem Tryz.func166 rfl (Eq.mp (impl_isMode_eq m w R) h)
def impl_roundQuotient_j0 (r : Nat) (r_1 : Nat) (q_p : Option Addr) (q_n : Nat) (q_c : Nat) (W : World) (R : Value → World → Prop) : Prop :=
  ∃ (t40 : Bool), Loads P 4 ((⟨r, 0, none⟩ : Addr).add 0) (.bool t40) W ∧ Calls P 112 ⟨[(.bool t40), (.slice q_p q_n q_c)]⟩ W fun e_7 wv_11 =>
  ∃ (t420 : Bool) (t421_p : Option Addr) (t421_n : Nat) (t421_c : Nat), e_7 = .returned (.agg #[(.bool t420), (.slice t421_p t421_n t421_c)]) ∧
  ∃ wv_12, Stores P 31 ⟨r_1, 0, none⟩ (.agg #[(.bool t420), (.slice t421_p t421_n t421_c)]) wv_11 wv_12 ∧
  ∃ (r0 : Bool) (r1_p : Option Addr) (r1_n : Nat) (r1_c : Nat), Loads P 31 ⟨r_1, 0, none⟩ (.agg #[(.bool r0), (.slice r1_p r1_n r1_c)]) wv_12 ∧ R (.agg #[(.bool r0), (.slice r1_p r1_n r1_c)]) wv_12
def impl_roundQuotient (num0 : Bool) (num1_p : Option Addr) (num1_n : Nat) (num1_c : Nat) (den_p : Option Addr) (den_n : Nat) (den_c : Nat) (m : Int) (w : World) (R : Value → World → Prop) : Prop :=
  ∀ (r : Nat) (wv : World), New w (.cells ⟨[(.bool num0), (.slice num1_p num1_n num1_c)]⟩ 31 (0, 0)) r wv →
  ∀ (r_1 : Nat) (wv_1 : World), New wv (.cells ⟨[(.bool false), (.slice none 0 0)]⟩ 31 (0, 0)) r_1 wv_1 →
  ∃ (t11_p : Option Addr) (t11_n : Nat) (t11_c : Nat), Loads P 22 ((⟨r, 0, none⟩ : Addr).add 1) (.slice t11_p t11_n t11_c) wv_1 ∧ Calls P 145 ⟨[(.slice t11_p t11_n t11_c), (.slice den_p den_n den_c)]⟩ wv_1 fun e wv_2 =>
  ∃ (t13_p : Option Addr) (t13_n : Nat) (t13_c : Nat) (t13_p_1 : Option Addr) (t13_n_1 : Nat) (t13_c_1 : Nat), e = .returned (.tuple #[(.slice t13_p t13_n t13_c), (.slice t13_p_1 t13_n_1 t13_c_1)]) ∧
  ((decide ((0 : Int) < ((t13_n_1 : Nat) : Int))) = true →
    Calls P 172 ⟨[]⟩ wv_2.drew fun e_1 wv_3 =>
    ∃ (t200 : ByteArray) (t201 : Value) (t202 : ByteArray) (t203 : Value) (t204 : ByteArray) (t205 : Value) (t206 : ByteArray) (t207 : Value) (t208 : ByteArray) (t209 : Value) (t2010 : ByteArray) (t2011 : Value) (t2012 : ByteArray) (t2013 : Value), e_1 = .returned (.agg #[(.string t200), t201, (.string t202), t203, (.string t204), t205, (.string t206), t207, (.string t208), t209, (.string t2010), t2011, (.string t2012), t2013]) ∧
    Ext wv_2.drew wv_3 ∧ indexS P 155 (.agg #[(.string t200), t201, (.string t202), t203, (.string t204), t205, (.string t206), t207, (.string t208), t209, (.string t2010), t2011, (.string t2012), t2013]) (.int .i64 m) fun (el : Value) => fieldS P 154 el 1 fun (fl : Value) => ∃ (t25 : Bool), (∀ wv_4, Ext wv_2.drew wv_4 → Loads P 4 ((⟨r, 0, none⟩ : Addr).add 0) (.bool t25) wv_4) ∧ Calls P 154 ⟨[(.slice t13_p_1 t13_n_1 t13_c_1), (.slice t13_p_1 t13_n_1 t13_c_1)]⟩ wv_3 fun e_2 wv_5 =>
    ∃ (t28_p : Option Addr) (t28_n : Nat) (t28_c : Nat), e_2 = .returned (.slice t28_p t28_n t28_c) ∧
    Ext wv_3 wv_5 ∧ Calls P 125 ⟨[(.slice t28_p t28_n t28_c), (.slice den_p den_n den_c)]⟩ wv_5 fun e_3 wv_6 =>
    ∃ (t30 : Int), e_3 = .returned (.int .i64 t30) ∧
    Ext wv_5 wv_6 ∧ Calls P 173 ⟨[(.slice t13_p t13_n t13_c)]⟩ wv_6 fun e_4 wv_7 =>
    ∃ (t32 : Bool), e_4 = .returned (.bool t32) ∧
    Ext wv_6 wv_7 ∧ CallW P fl [(.bool t25), (.int .i64 t30), (.bool (!t32))] wv_7 fun e_5 wv_8 =>
    ∃ (t34 : Bool), e_5 = .returned (.bool t34) ∧
    (t34 = true →
      ∀ (r_2 : Nat) (wv_9 : World), New wv_8 (.cells ⟨[(.int .i64 1)]⟩ 3 (0, 0)) r_2 wv_9 →
      Calls P 154 ⟨[(.slice t13_p t13_n t13_c), (.slice (some ⟨r_2, 0, none⟩) 1 1)]⟩ wv_9 fun e_6 wv_10 =>
      ∃ (t38_p : Option Addr) (t38_n : Nat) (t38_c : Nat), e_6 = .returned (.slice t38_p t38_n t38_c) ∧
      impl_roundQuotient_j0 r r_1 t38_p t38_n t38_c wv_10 R) ∧
    (t34 = false →
      impl_roundQuotient_j0 r r_1 t13_p t13_n t13_c wv_8 R)) ∧
  ((decide ((0 : Int) < ((t13_n_1 : Nat) : Int))) = false →
    (false = true →
      ∀ (r_3 : Nat) (wv_13 : World), New wv_2.drew (.cells ⟨[(.int .i64 1)]⟩ 3 (0, 0)) r_3 wv_13 →
      Calls P 154 ⟨[(.slice t13_p t13_n t13_c), (.slice (some ⟨r_3, 0, none⟩) 1 1)]⟩ wv_13 fun e_8 wv_14 =>
      ∃ (t38_p_1 : Option Addr) (t38_n_1 : Nat) (t38_c_1 : Nat), e_8 = .returned (.slice t38_p_1 t38_n_1 t38_c_1) ∧
      impl_roundQuotient_j0 r r_1 t38_p_1 t38_n_1 t38_c_1 wv_14 R) ∧
    (false = false →
      impl_roundQuotient_j0 r r_1 t13_p t13_n t13_c wv_2.drew R))
theorem impl_roundQuotient_eq (num0 : Bool) (num1_p : Option Addr) (num1_n : Nat) (num1_c : Nat) (den_p : Option Addr) (den_n : Nat) (den_c : Nat) (m : Int) (w : World) (R : Value → World → Prop) : impl_roundQuotient num0 num1_p num1_n num1_c den_p den_n den_c m w R = fsem P Tryz.f167 (fun k => []) [(.agg #[(.bool num0), (.slice num1_p num1_n num1_c)]), (.slice den_p den_n den_c), (.int .i64 m)] R w := by kernel_rfl
theorem impl_roundQuotient_ret {num0 : Bool} {num1_p : Option Addr} {num1_n : Nat} {num1_c : Nat} {den_p : Option Addr} {den_n : Nat} {den_c : Nat} {m : Int} {w : World} {R : Value → World → Prop} (h : impl_roundQuotient num0 num1_p num1_n num1_c den_p den_n den_c m w R) : Ret P 167 [(.agg #[(.bool num0), (.slice num1_p num1_n num1_c)]), (.slice den_p den_n den_c), (.int .i64 m)] w R :=
  Ret.of_fsem Tryz.func167 rfl (Eq.mp (impl_roundQuotient_eq num0 num1_p num1_n num1_c den_p den_n den_c m w R) h)
def impl_ratNeg (r0 : Bool) (r1_p : Option Addr) (r1_n : Nat) (r1_c : Nat) (r2_p : Option Addr) (r2_n : Nat) (r2_c : Nat) (w : World) (R : Value → World → Prop) : Prop :=
  ∀ (r : Nat) (wv : World), New w (.cells ⟨[(.bool r0), (.slice r1_p r1_n r1_c), (.slice r2_p r2_n r2_c)]⟩ 35 (0, 0)) r wv →
  ∀ (r_1 : Nat) (wv_1 : World), New wv (.cells ⟨[(.bool false), (.slice none 0 0), (.slice none 0 0)]⟩ 35 (0, 0)) r_1 wv_1 →
  ∃ (t40 : Bool) (t41_p : Option Addr) (t41_n : Nat) (t41_c : Nat), (∀ wv_2, Ext wv_1.drew wv_2 → Loads P 31 ((⟨r, 0, none⟩ : Addr).add 0) (.agg #[(.bool t40), (.slice t41_p t41_n t41_c)]) wv_2) ∧ Calls P 113 ⟨[(.agg #[(.bool t40), (.slice t41_p t41_n t41_c)])]⟩ wv_1.drew fun e wv_3 =>
  ∃ (t50 : Bool) (t51_p : Option Addr) (t51_n : Nat) (t51_c : Nat), e = .returned (.agg #[(.bool t50), (.slice t51_p t51_n t51_c)]) ∧
  Ext wv_1.drew wv_3 ∧ ∃ (t7_p : Option Addr) (t7_n : Nat) (t7_c : Nat), (∀ wv_4, Ext wv_1.drew wv_4 → Loads P 22 ((⟨r, 0, none⟩ : Addr).add 2) (.slice t7_p t7_n t7_c) wv_4) ∧ Calls P 147 ⟨[(.slice t7_p t7_n t7_c)]⟩ wv_3 fun e_1 wv_5 =>
  ∃ (t8_p : Option Addr) (t8_n : Nat) (t8_c : Nat), e_1 = .returned (.slice t8_p t8_n t8_c) ∧
  ∃ wv_6, Stores P 35 ⟨r_1, 0, none⟩ (.agg #[(.bool t50), (.slice t51_p t51_n t51_c), (.slice t8_p t8_n t8_c)]) wv_5 wv_6 ∧
  ∃ (r0_1 : Bool) (r1_p_1 : Option Addr) (r1_n_1 : Nat) (r1_c_1 : Nat) (r2_p_1 : Option Addr) (r2_n_1 : Nat) (r2_c_1 : Nat), Loads P 35 ⟨r_1, 0, none⟩ (.agg #[(.bool r0_1), (.slice r1_p_1 r1_n_1 r1_c_1), (.slice r2_p_1 r2_n_1 r2_c_1)]) wv_6 ∧ R (.agg #[(.bool r0_1), (.slice r1_p_1 r1_n_1 r1_c_1), (.slice r2_p_1 r2_n_1 r2_c_1)]) wv_6
theorem impl_ratNeg_eq (r0 : Bool) (r1_p : Option Addr) (r1_n : Nat) (r1_c : Nat) (r2_p : Option Addr) (r2_n : Nat) (r2_c : Nat) (w : World) (R : Value → World → Prop) : impl_ratNeg r0 r1_p r1_n r1_c r2_p r2_n r2_c w R = fsem P Tryz.f168 (fun k => []) [(.agg #[(.bool r0), (.slice r1_p r1_n r1_c), (.slice r2_p r2_n r2_c)])] R w := by kernel_rfl
theorem impl_ratNeg_ret {r0 : Bool} {r1_p : Option Addr} {r1_n : Nat} {r1_c : Nat} {r2_p : Option Addr} {r2_n : Nat} {r2_c : Nat} {w : World} {R : Value → World → Prop} (h : impl_ratNeg r0 r1_p r1_n r1_c r2_p r2_n r2_c w R) : Ret P 168 [(.agg #[(.bool r0), (.slice r1_p r1_n r1_c), (.slice r2_p r2_n r2_c)])] w R :=
  Ret.of_fsem Tryz.func168 rfl (Eq.mp (impl_ratNeg_eq r0 r1_p r1_n r1_c r2_p r2_n r2_c w R) h)
def spec_l06Away (neg : Bool) (q_p : Option Addr) (q_n : Nat) (q_c : Nat) (rest_p : Option Addr) (rest_n : Nat) (rest_c : Nat) (den_p : Option Addr) (den_n : Nat) (den_c : Nat) (m : Int) (w : World) (R : Value → World → Prop) : Prop :=
  Calls P 150 ⟨[(.slice rest_p rest_n rest_c), (.slice rest_p rest_n rest_c)]⟩ w fun e wv =>
  ∃ (t14_p : Option Addr) (t14_n : Nat) (t14_c : Nat), e = .returned (.slice t14_p t14_n t14_c) ∧
  Calls P 115 ⟨[(.slice t14_p t14_n t14_c), (.slice den_p den_n den_c)]⟩ wv fun e_1 wv_1 =>
  ∃ (t16 : Int), e_1 = .returned (.int .i64 t16) ∧
  ((decide ((m : Int) = 0)) = true →
    R (.bool false) wv_1) ∧
  ((decide ((m : Int) = 0)) = false →
    ((decide ((m : Int) = 1)) = true →
      R (.bool true) wv_1) ∧
    ((decide ((m : Int) = 1)) = false →
      ((decide ((m : Int) = 2)) = true →
        R (.bool neg) wv_1) ∧
      ((decide ((m : Int) = 2)) = false →
        ((decide ((m : Int) = 3)) = true →
          R (.bool (!neg)) wv_1) ∧
        ((decide ((m : Int) = 3)) = false →
          ((decide ((m : Int) = 4)) = true →
            R (.bool (decide ((0 : Int) < t16))) wv_1) ∧
          ((decide ((m : Int) = 4)) = false →
            ((decide ((m : Int) = 5)) = true →
              R (.bool (decide ((0 : Int) ≤ t16))) wv_1) ∧
            ((decide ((m : Int) = 5)) = false →
              ((decide ((0 : Int) < t16)) = true →
                R (.bool true) wv_1) ∧
              ((decide ((0 : Int) < t16)) = false →
                ((decide ((t16 : Int) = 0)) = true →
                  Calls P 174 ⟨[(.slice q_p q_n q_c)]⟩ wv_1 fun e_2 wv_2 =>
                  ∃ (t44 : Bool), e_2 = .returned (.bool t44) ∧
                  R (.bool (!t44)) wv_2) ∧
                ((decide ((t16 : Int) = 0)) = false →
                  R (.bool false) wv_1))))))))
theorem spec_l06Away_eq (neg : Bool) (q_p : Option Addr) (q_n : Nat) (q_c : Nat) (rest_p : Option Addr) (rest_n : Nat) (rest_c : Nat) (den_p : Option Addr) (den_n : Nat) (den_c : Nat) (m : Int) (w : World) (R : Value → World → Prop) : spec_l06Away neg q_p q_n q_c rest_p rest_n rest_c den_p den_n den_c m w R = fsem P Tryz.f169 (fun k => []) [(.bool neg), (.slice q_p q_n q_c), (.slice rest_p rest_n rest_c), (.slice den_p den_n den_c), (.int .i64 m)] R w := by kernel_rfl
theorem spec_l06Away_ret {neg : Bool} {q_p : Option Addr} {q_n : Nat} {q_c : Nat} {rest_p : Option Addr} {rest_n : Nat} {rest_c : Nat} {den_p : Option Addr} {den_n : Nat} {den_c : Nat} {m : Int} {w : World} {R : Value → World → Prop} (h : spec_l06Away neg q_p q_n q_c rest_p rest_n rest_c den_p den_n den_c m w R) : Ret P 169 [(.bool neg), (.slice q_p q_n q_c), (.slice rest_p rest_n rest_c), (.slice den_p den_n den_c), (.int .i64 m)] w R :=
  Ret.of_fsem Tryz.func169 rfl (Eq.mp (spec_l06Away_eq neg q_p q_n q_c rest_p rest_n rest_c den_p den_n den_c m w R) h)
def impl_subTimes_j0 (u_p : Option Addr) (u_n : Nat) (wv : World) (Inv : Int → Int → World → Prop) (mu : Int → Int → World → Nat) (borrow : Int) (t13 : Int) (borrow_1 : Int) (n : Int) (W : World) (R : Value → World → Prop) : Prop :=
  (0 ≤ (t13 : Int) ∧ (t13 : Int) < (u_n : Nat)) ∧ ptrS u_p fun ad_2 => ∃ wv_1, Stores P 3 (ad_2.add (t13.toNat * 1)) (.int .i64 n) W wv_1 ∧
  ∃ t43 : Int, t43 = IntKind.wrap .i64 (t13 + 1) ∧ Inv borrow_1 t43 wv_1 ∧ mu borrow_1 t43 wv_1 < mu borrow t13 wv
def impl_subTimes (u_p : Option Addr) (u_n : Nat) (u_c : Nat) (v_p : Option Addr) (v_n : Nat) (v_c : Nat) (q : Int) (w : World) (R : Value → World → Prop) : Prop :=
  ∃ (Inv : Int → Int → World → Prop) (mu : Int → Int → World → Nat), Inv 0 0 w ∧
  ∀ (junk : Fr) (wv : World) (borrow : Int) (t13 : Int), Inv borrow t13 wv →
    ((decide ((t13 : Int) < ((v_n : Nat) : Int))) = true →
      (0 ≤ (t13 : Int) ∧ (t13 : Int) < (v_n : Nat)) ∧ ptrS v_p fun ad => ∃ (t17 : Int), Loads P 3 (ad.add (t13.toNat * 1)) (.int .i64 t17) wv ∧ (0 ≤ (t13 : Int) ∧ (t13 : Int) < (u_n : Nat)) ∧ ptrS u_p fun ad_1 => ∃ (t21 : Int), Loads P 3 (ad_1.add (t13.toNat * 1)) (.int .i64 t21) wv ∧ ∃ t24 : Int, t24 = IntKind.wrap .i64 (t17 * q) ∧ ∃ t25 : Int, t25 = IntKind.wrap .i64 (t21 - t24) ∧ ∃ t27 : Int, t27 = IntKind.wrap .i64 (t25 - borrow) ∧ ((decide ((t27 : Int) < 0)) = true →
        ∃ t31 : Int, t31 = IntKind.wrap .i64 (0 - t27) ∧ ∃ t32 : Int, t32 = IntKind.wrap .i64 (t31 + 1000000000) ∧ ∃ t33 : Int, t33 = IntKind.wrap .i64 (t32 - 1) ∧ (1000000000 : Int) ≠ 0 ∧ ∃ t34 : Int, t34 = IntKind.wrap .i64 (Int.tdiv t33 1000000000) ∧ ∃ t37 : Int, t37 = IntKind.wrap .i64 (t34 * 1000000000) ∧ ∃ t38 : Int, t38 = IntKind.wrap .i64 (t27 + t37) ∧ impl_subTimes_j0 u_p u_n wv Inv mu borrow t13 t34 t38 wv R) ∧
      ((decide ((t27 : Int) < 0)) = false →
        impl_subTimes_j0 u_p u_n wv Inv mu borrow t13 0 t27 wv R)) ∧
    ((decide ((t13 : Int) < ((v_n : Nat) : Int))) = false →
      (0 ≤ (((v_n : Nat) : Int) : Int) ∧ (((v_n : Nat) : Int) : Int) < (u_n : Nat)) ∧ ptrS u_p fun ad_3 => ∃ (t48 : Int), Loads P 3 (ad_3.add (v_n * 1)) (.int .i64 t48) wv ∧ ∃ t50 : Int, t50 = IntKind.wrap .i64 (t48 - borrow) ∧ (0 ≤ (((v_n : Nat) : Int) : Int) ∧ (((v_n : Nat) : Int) : Int) < (u_n : Nat)) ∧ ptrS u_p fun ad_4 => ∃ wv_2, Stores P 3 (ad_4.add (v_n * 1)) (.int .i64 t50) wv wv_2 ∧
      (0 ≤ (((v_n : Nat) : Int) : Int) ∧ (((v_n : Nat) : Int) : Int) < (u_n : Nat)) ∧ ptrS u_p fun ad_5 => ∃ (t56 : Int), Loads P 3 (ad_5.add (v_n * 1)) (.int .i64 t56) wv_2 ∧ R (.bool (decide ((t56 : Int) < 0))) wv_2)
theorem impl_subTimes_eq (u_p : Option Addr) (u_n : Nat) (u_c : Nat) (v_p : Option Addr) (v_n : Nat) (v_c : Nat) (q : Int) (w : World) (R : Value → World → Prop) : impl_subTimes u_p u_n u_c v_p v_n v_c q w R = fsem P Tryz.f170 (fun k => cond (Nat.beq k 4) [(7, .one (.int .i64)), (13, .one (.int .i64))] ([])) [(.slice u_p u_n u_c), (.slice v_p v_n v_c), (.int .i64 q)] R w := by kernel_rfl
theorem impl_subTimes_ret {u_p : Option Addr} {u_n : Nat} {u_c : Nat} {v_p : Option Addr} {v_n : Nat} {v_c : Nat} {q : Int} {w : World} {R : Value → World → Prop} (h : impl_subTimes u_p u_n u_c v_p v_n v_c q w R) : Ret P 170 [(.slice u_p u_n u_c), (.slice v_p v_n v_c), (.int .i64 q)] w R :=
  Ret.of_fsem Tryz.func170 rfl (Eq.mp (impl_subTimes_eq u_p u_n u_c v_p v_n v_c q w R) h)
def impl_addBack (u_p : Option Addr) (u_n : Nat) (u_c : Nat) (v_p : Option Addr) (v_n : Nat) (v_c : Nat) (w : World) (R : Value → World → Prop) : Prop :=
  ∃ (Inv : Int → Int → World → Prop) (mu : Int → Int → World → Nat), Inv 0 0 w ∧
  ∀ (junk : Fr) (wv : World) (carry : Int) (t9 : Int), Inv carry t9 wv →
    ((decide ((t9 : Int) < ((v_n : Nat) : Int))) = true →
      (0 ≤ (t9 : Int) ∧ (t9 : Int) < (v_n : Nat)) ∧ ptrS v_p fun ad => ∃ (t13 : Int), Loads P 3 (ad.add (t9.toNat * 1)) (.int .i64 t13) wv ∧ (0 ≤ (t9 : Int) ∧ (t9 : Int) < (u_n : Nat)) ∧ ptrS u_p fun ad_1 => ∃ (t18 : Int), Loads P 3 (ad_1.add (t9.toNat * 1)) (.int .i64 t18) wv ∧ ∃ t20 : Int, t20 = IntKind.wrap .i64 (t18 + t13) ∧ ∃ t21 : Int, t21 = IntKind.wrap .i64 (carry + t20) ∧ (1000000000 : Int) ≠ 0 ∧ ∃ t25 : Int, t25 = Int.tmod t21 1000000000 ∧ (0 ≤ (t9 : Int) ∧ (t9 : Int) < (u_n : Nat)) ∧ ptrS u_p fun ad_2 => ∃ wv_1, Stores P 3 (ad_2.add (t9.toNat * 1)) (.int .i64 t25) wv wv_1 ∧
      (1000000000 : Int) ≠ 0 ∧ ∃ t28 : Int, t28 = IntKind.wrap .i64 (Int.tdiv t21 1000000000) ∧ ∃ t29 : Int, t29 = IntKind.wrap .i64 (t9 + 1) ∧ Inv t28 t29 wv_1 ∧ mu t28 t29 wv_1 < mu carry t9 wv) ∧
    ((decide ((t9 : Int) < ((v_n : Nat) : Int))) = false →
      (0 ≤ (((v_n : Nat) : Int) : Int) ∧ (((v_n : Nat) : Int) : Int) < (u_n : Nat)) ∧ ptrS u_p fun ad_3 => ∃ (t34 : Int), Loads P 3 (ad_3.add (v_n * 1)) (.int .i64 t34) wv ∧ ∃ t36 : Int, t36 = IntKind.wrap .i64 (t34 + carry) ∧ (0 ≤ (((v_n : Nat) : Int) : Int) ∧ (((v_n : Nat) : Int) : Int) < (u_n : Nat)) ∧ ptrS u_p fun ad_4 => ∃ wv_2, Stores P 3 (ad_4.add (v_n * 1)) (.int .i64 t36) wv wv_2 ∧
      R (.tuple #[]) wv_2)
theorem impl_addBack_eq (u_p : Option Addr) (u_n : Nat) (u_c : Nat) (v_p : Option Addr) (v_n : Nat) (v_c : Nat) (w : World) (R : Value → World → Prop) : impl_addBack u_p u_n u_c v_p v_n v_c w R = fsem P Tryz.f171 (fun k => cond (Nat.beq k 3) [(4, .one (.int .i64)), (9, .one (.int .i64))] ([])) [(.slice u_p u_n u_c), (.slice v_p v_n v_c)] R w := by kernel_rfl
theorem impl_addBack_ret {u_p : Option Addr} {u_n : Nat} {u_c : Nat} {v_p : Option Addr} {v_n : Nat} {v_c : Nat} {w : World} {R : Value → World → Prop} (h : impl_addBack u_p u_n u_c v_p v_n v_c w R) : Ret P 171 [(.slice u_p u_n u_c), (.slice v_p v_n v_c)] w R :=
  Ret.of_fsem Tryz.func171 rfl (Eq.mp (impl_addBack_eq u_p u_n u_c v_p v_n v_c w R) h)
def impl_roundModes (w : World) (R : Value → World → Prop) : Prop :=
  ∀ (r : Nat) (wv : World), New w (.cells ⟨[(.string ByteArray.empty), .nilFunc, (.string ByteArray.empty), .nilFunc, (.string ByteArray.empty), .nilFunc, (.string ByteArray.empty), .nilFunc, (.string ByteArray.empty), .nilFunc, (.string ByteArray.empty), .nilFunc, (.string ByteArray.empty), .nilFunc]⟩ 155 (0, 0)) r wv →
  ∃ wv_1, Stores P 155 ⟨r, 0, none⟩ (.agg #[(.string (S [100, 111, 119, 110])), (.func (.func 175) #[] #[]), (.string (S [117, 112])), (.func (.func 176) #[] #[]), (.string (S [102, 108, 111, 111, 114])), (.func (.func 177) #[] #[]), (.string (S [99, 101, 105, 108])), (.func (.func 178) #[] #[]), (.string (S [104, 97, 108, 102, 100, 111, 119, 110])), (.func (.func 179) #[] #[]), (.string (S [104, 97, 108, 102, 117, 112])), (.func (.func 180) #[] #[]), (.string (S [104, 97, 108, 102, 101, 118, 101, 110])), (.func (.func 181) #[] #[])]) wv wv_1 ∧
  ∃ (r0 : ByteArray) (r1 : Value) (r2 : ByteArray) (r3 : Value) (r4 : ByteArray) (r5 : Value) (r6 : ByteArray) (r7 : Value) (r8 : ByteArray) (r9 : Value) (r10 : ByteArray) (r11 : Value) (r12 : ByteArray) (r13 : Value), Loads P 155 ⟨r, 0, none⟩ (.agg #[(.string r0), r1, (.string r2), r3, (.string r4), r5, (.string r6), r7, (.string r8), r9, (.string r10), r11, (.string r12), r13]) wv_1 ∧ R (.agg #[(.string r0), r1, (.string r2), r3, (.string r4), r5, (.string r6), r7, (.string r8), r9, (.string r10), r11, (.string r12), r13]) wv_1
theorem impl_roundModes_eq (w : World) (R : Value → World → Prop) : impl_roundModes w R = fsem P Tryz.f172 (fun k => []) [] R w := by kernel_rfl
set_option maxHeartbeats 4000000 in
theorem impl_roundModes_ret {w : World} {R : Value → World → Prop} (h : impl_roundModes w R) : Ret P 172 [] w R := by
  have h2 := impl_roundModes_eq w R
  have h3 : fsem P Tryz.f172 (fun k => []) [] R w := by rw [← h2]; exact h
  exact Ret.of_fsem (fn := Tryz.f172) (car := (fun k => [])) (args := []) (w := w) (R := R) Tryz.func172 rfl h3
def impl_NatEven (a_p : Option Addr) (a_n : Nat) (a_c : Nat) (w : World) (R : Value → World → Prop) : Prop :=
  Calls P 140 ⟨[(.slice a_p a_n a_c)]⟩ w fun e wv =>
  ∃ (t4 : Bool), e = .returned (.bool t4) ∧
  (t4 = true →
    ((decide ((((a_n : Nat) : Int) : Int) = 0)) = true →
      R (.bool true) wv) ∧
    ((decide ((((a_n : Nat) : Int) : Int) = 0)) = false →
      (0 ≤ (0 : Int) ∧ (0 : Int) < (a_n : Nat)) ∧ ptrS a_p fun ad => ∃ (t12 : Int), Loads P 3 (ad.add (0 * 1)) (.int .i64 t12) wv ∧ (2 : Int) ≠ 0 ∧ ∃ t13 : Int, t13 = Int.tmod t12 2 ∧ R (.bool (decide ((t13 : Int) = 0))) wv)) ∧
  (t4 = false →
    R (.bool false) wv)
theorem impl_NatEven_eq (a_p : Option Addr) (a_n : Nat) (a_c : Nat) (w : World) (R : Value → World → Prop) : impl_NatEven a_p a_n a_c w R = fsem P Tryz.f173 (fun k => []) [(.slice a_p a_n a_c)] R w := by kernel_rfl
theorem impl_NatEven_ret {a_p : Option Addr} {a_n : Nat} {a_c : Nat} {w : World} {R : Value → World → Prop} (h : impl_NatEven a_p a_n a_c w R) : Ret P 173 [(.slice a_p a_n a_c)] w R :=
  Ret.of_fsem Tryz.func173 rfl (Eq.mp (impl_NatEven_eq a_p a_n a_c w R) h)
def spec_NatEven (a_p : Option Addr) (a_n : Nat) (a_c : Nat) (w : World) (R : Value → World → Prop) : Prop :=
  Calls P 129 ⟨[(.slice a_p a_n a_c)]⟩ w fun e wv =>
  ∃ (t4 : Bool), e = .returned (.bool t4) ∧
  (t4 = true →
    ((decide ((((a_n : Nat) : Int) : Int) = 0)) = true →
      R (.bool true) wv) ∧
    ((decide ((((a_n : Nat) : Int) : Int) = 0)) = false →
      (0 ≤ (0 : Int) ∧ (0 : Int) < (a_n : Nat)) ∧ ptrS a_p fun ad => ∃ (t12 : Int), Loads P 3 (ad.add (0 * 1)) (.int .i64 t12) wv ∧ (2 : Int) ≠ 0 ∧ ∃ t13 : Int, t13 = Int.tmod t12 2 ∧ R (.bool (decide ((t13 : Int) = 0))) wv)) ∧
  (t4 = false →
    R (.bool false) wv)
theorem spec_NatEven_eq (a_p : Option Addr) (a_n : Nat) (a_c : Nat) (w : World) (R : Value → World → Prop) : spec_NatEven a_p a_n a_c w R = fsem P Tryz.f174 (fun k => []) [(.slice a_p a_n a_c)] R w := by kernel_rfl
theorem spec_NatEven_ret {a_p : Option Addr} {a_n : Nat} {a_c : Nat} {w : World} {R : Value → World → Prop} (h : spec_NatEven a_p a_n a_c w R) : Ret P 174 [(.slice a_p a_n a_c)] w R :=
  Ret.of_fsem Tryz.func174 rfl (Eq.mp (spec_NatEven_eq a_p a_n a_c w R) h)
def impl_roundModes_1 (a0 : Bool) (a1 : Int) (a2 : Bool) (w : World) (R : Value → World → Prop) : Prop :=
  R (.bool false) w
theorem impl_roundModes_1_eq (a0 : Bool) (a1 : Int) (a2 : Bool) (w : World) (R : Value → World → Prop) : impl_roundModes_1 a0 a1 a2 w R = fsem P Tryz.f175 (fun k => []) [(.bool a0), (.int .i64 a1), (.bool a2)] R w := by kernel_rfl
theorem impl_roundModes_1_ret {a0 : Bool} {a1 : Int} {a2 : Bool} {w : World} {R : Value → World → Prop} (h : impl_roundModes_1 a0 a1 a2 w R) : Ret P 175 [(.bool a0), (.int .i64 a1), (.bool a2)] w R :=
  Ret.of_fsem Tryz.func175 rfl (Eq.mp (impl_roundModes_1_eq a0 a1 a2 w R) h)
def impl_roundModes_2 (a0 : Bool) (a1 : Int) (a2 : Bool) (w : World) (R : Value → World → Prop) : Prop :=
  R (.bool true) w
theorem impl_roundModes_2_eq (a0 : Bool) (a1 : Int) (a2 : Bool) (w : World) (R : Value → World → Prop) : impl_roundModes_2 a0 a1 a2 w R = fsem P Tryz.f176 (fun k => []) [(.bool a0), (.int .i64 a1), (.bool a2)] R w := by kernel_rfl
theorem impl_roundModes_2_ret {a0 : Bool} {a1 : Int} {a2 : Bool} {w : World} {R : Value → World → Prop} (h : impl_roundModes_2 a0 a1 a2 w R) : Ret P 176 [(.bool a0), (.int .i64 a1), (.bool a2)] w R :=
  Ret.of_fsem Tryz.func176 rfl (Eq.mp (impl_roundModes_2_eq a0 a1 a2 w R) h)
def impl_roundModes_3 (neg : Bool) (u : Int) (u_1 : Bool) (w : World) (R : Value → World → Prop) : Prop :=
  R (.bool neg) w
theorem impl_roundModes_3_eq (neg : Bool) (u : Int) (u_1 : Bool) (w : World) (R : Value → World → Prop) : impl_roundModes_3 neg u u_1 w R = fsem P Tryz.f177 (fun k => []) [(.bool neg), (.int .i64 u), (.bool u_1)] R w := by kernel_rfl
theorem impl_roundModes_3_ret {neg : Bool} {u : Int} {u_1 : Bool} {w : World} {R : Value → World → Prop} (h : impl_roundModes_3 neg u u_1 w R) : Ret P 177 [(.bool neg), (.int .i64 u), (.bool u_1)] w R :=
  Ret.of_fsem Tryz.func177 rfl (Eq.mp (impl_roundModes_3_eq neg u u_1 w R) h)
def impl_roundModes_4 (neg : Bool) (u : Int) (u_1 : Bool) (w : World) (R : Value → World → Prop) : Prop :=
  R (.bool (!neg)) w
theorem impl_roundModes_4_eq (neg : Bool) (u : Int) (u_1 : Bool) (w : World) (R : Value → World → Prop) : impl_roundModes_4 neg u u_1 w R = fsem P Tryz.f178 (fun k => []) [(.bool neg), (.int .i64 u), (.bool u_1)] R w := by kernel_rfl
theorem impl_roundModes_4_ret {neg : Bool} {u : Int} {u_1 : Bool} {w : World} {R : Value → World → Prop} (h : impl_roundModes_4 neg u u_1 w R) : Ret P 178 [(.bool neg), (.int .i64 u), (.bool u_1)] w R :=
  Ret.of_fsem Tryz.func178 rfl (Eq.mp (impl_roundModes_4_eq neg u u_1 w R) h)
def impl_roundModes_5 (u : Bool) (half : Int) (u_1 : Bool) (w : World) (R : Value → World → Prop) : Prop :=
  R (.bool (decide ((0 : Int) < half))) w
theorem impl_roundModes_5_eq (u : Bool) (half : Int) (u_1 : Bool) (w : World) (R : Value → World → Prop) : impl_roundModes_5 u half u_1 w R = fsem P Tryz.f179 (fun k => []) [(.bool u), (.int .i64 half), (.bool u_1)] R w := by kernel_rfl
theorem impl_roundModes_5_ret {u : Bool} {half : Int} {u_1 : Bool} {w : World} {R : Value → World → Prop} (h : impl_roundModes_5 u half u_1 w R) : Ret P 179 [(.bool u), (.int .i64 half), (.bool u_1)] w R :=
  Ret.of_fsem Tryz.func179 rfl (Eq.mp (impl_roundModes_5_eq u half u_1 w R) h)
def impl_roundModes_6 (u : Bool) (half : Int) (u_1 : Bool) (w : World) (R : Value → World → Prop) : Prop :=
  R (.bool (decide ((0 : Int) ≤ half))) w
theorem impl_roundModes_6_eq (u : Bool) (half : Int) (u_1 : Bool) (w : World) (R : Value → World → Prop) : impl_roundModes_6 u half u_1 w R = fsem P Tryz.f180 (fun k => []) [(.bool u), (.int .i64 half), (.bool u_1)] R w := by kernel_rfl
theorem impl_roundModes_6_ret {u : Bool} {half : Int} {u_1 : Bool} {w : World} {R : Value → World → Prop} (h : impl_roundModes_6 u half u_1 w R) : Ret P 180 [(.bool u), (.int .i64 half), (.bool u_1)] w R :=
  Ret.of_fsem Tryz.func180 rfl (Eq.mp (impl_roundModes_6_eq u half u_1 w R) h)
def impl_roundModes_7 (u : Bool) (half : Int) (odd : Bool) (w : World) (R : Value → World → Prop) : Prop :=
  ((decide ((0 : Int) < half)) = true →
    R (.bool true) w) ∧
  ((decide ((0 : Int) < half)) = false →
    ((decide ((half : Int) = 0)) = true →
      R (.bool odd) w) ∧
    ((decide ((half : Int) = 0)) = false →
      R (.bool false) w))
theorem impl_roundModes_7_eq (u : Bool) (half : Int) (odd : Bool) (w : World) (R : Value → World → Prop) : impl_roundModes_7 u half odd w R = fsem P Tryz.f181 (fun k => []) [(.bool u), (.int .i64 half), (.bool odd)] R w := by kernel_rfl
theorem impl_roundModes_7_ret {u : Bool} {half : Int} {odd : Bool} {w : World} {R : Value → World → Prop} (h : impl_roundModes_7 u half odd w R) : Ret P 181 [(.bool u), (.int .i64 half), (.bool odd)] w R :=
  Ret.of_fsem Tryz.func181 rfl (Eq.mp (impl_roundModes_7_eq u half odd w R) h)
end Go.Proofs.YtfemmmbkhhemaaaGreatDoor

namespace Go.Proofs.YtfemmmbkhhemaaaGreatDoor
open Go Go.Proofs.YtfemmmbkhhemaaaGreatDoor.Sx
set_option linter.unusedVariables false
set_option maxRecDepth 100000
def laws_szMoney (a0 : ByteArray) (a1 : Bool) (a2_p : Option Addr) (a2_n : Nat) (a2_c : Nat) (left : Int) (w : World) (R : Value → World → Prop) : Prop :=
  ∀ (r : Nat) (wv : World), New w (.cells ⟨[(.string a0), (.bool a1), (.slice a2_p a2_n a2_c)]⟩ 26 (0, 0)) r wv →
  ∃ (t7 : ByteArray), Loads P 9 ((⟨r, 0, none⟩ : Addr).add 0) (.string t7) wv ∧ ∃ t9 : Int, t9 = IntKind.wrap .i64 (left - ((t7.size : Nat) : Int)) ∧ ((decide ((t9 : Int) < 0)) = true →
    R (.int .i64 (-1)) wv) ∧
  ((decide ((t9 : Int) < 0)) = false →
    ∃ (t130 : Bool) (t131_p : Option Addr) (t131_n : Nat) (t131_c : Nat), Loads P 24 ((⟨r, 0, none⟩ : Addr).add 1) (.agg #[(.bool t130), (.slice t131_p t131_n t131_c)]) wv ∧ Calls P 37 ⟨[(.agg #[(.bool t130), (.slice t131_p t131_n t131_c)]), (.int .i64 t9)]⟩ wv fun e wv_1 =>
    ∃ (t15 : Int), e = .returned (.int .i64 t15) ∧
    ((decide ((t15 : Int) < 0)) = true →
      R (.int .i64 (-1)) wv_1) ∧
    ((decide ((t15 : Int) < 0)) = false →
      R (.int .i64 t15) wv_1))
theorem laws_szMoney_eq (a0 : ByteArray) (a1 : Bool) (a2_p : Option Addr) (a2_n : Nat) (a2_c : Nat) (left : Int) (w : World) (R : Value → World → Prop) : laws_szMoney a0 a1 a2_p a2_n a2_c left w R = fsem P Tryz.f8 (fun k => []) [(.agg #[(.string a0), (.bool a1), (.slice a2_p a2_n a2_c)]), (.int .i64 left)] R w := by kernel_rfl
theorem laws_szMoney_ret {a0 : ByteArray} {a1 : Bool} {a2_p : Option Addr} {a2_n : Nat} {a2_c : Nat} {left : Int} {w : World} {R : Value → World → Prop} (h : laws_szMoney a0 a1 a2_p a2_n a2_c left w R) : Ret P 8 [(.agg #[(.string a0), (.bool a1), (.slice a2_p a2_n a2_c)]), (.int .i64 left)] w R :=
  Ret.of_fsem Tryz.func8 rfl (Eq.mp (laws_szMoney_eq a0 a1 a2_p a2_n a2_c left w R) h)
def laws_szDec (a0 : Bool) (a1_p : Option Addr) (a1_n : Nat) (a1_c : Nat) (a2 : Int) (left : Int) (w : World) (R : Value → World → Prop) : Prop :=
  ∀ (r : Nat) (wv : World), New w (.cells ⟨[(.bool a0), (.slice a1_p a1_n a1_c), (.int .i64 a2)]⟩ 28 (0, 0)) r wv →
  ∃ (t60 : Bool) (t61_p : Option Addr) (t61_n : Nat) (t61_c : Nat), Loads P 24 ((⟨r, 0, none⟩ : Addr).add 0) (.agg #[(.bool t60), (.slice t61_p t61_n t61_c)]) wv ∧ Calls P 37 ⟨[(.agg #[(.bool t60), (.slice t61_p t61_n t61_c)]), (.int .i64 left)]⟩ wv fun e wv_1 =>
  ∃ (t8 : Int), e = .returned (.int .i64 t8) ∧
  ((decide ((t8 : Int) < 0)) = true →
    R (.int .i64 (-1)) wv_1) ∧
  ((decide ((t8 : Int) < 0)) = false →
    R (.int .i64 t8) wv_1)
theorem laws_szDec_eq (a0 : Bool) (a1_p : Option Addr) (a1_n : Nat) (a1_c : Nat) (a2 : Int) (left : Int) (w : World) (R : Value → World → Prop) : laws_szDec a0 a1_p a1_n a1_c a2 left w R = fsem P Tryz.f9 (fun k => []) [(.agg #[(.bool a0), (.slice a1_p a1_n a1_c), (.int .i64 a2)]), (.int .i64 left)] R w := by kernel_rfl
theorem laws_szDec_ret {a0 : Bool} {a1_p : Option Addr} {a1_n : Nat} {a1_c : Nat} {a2 : Int} {left : Int} {w : World} {R : Value → World → Prop} (h : laws_szDec a0 a1_p a1_n a1_c a2 left w R) : Ret P 9 [(.agg #[(.bool a0), (.slice a1_p a1_n a1_c), (.int .i64 a2)]), (.int .i64 left)] w R :=
  Ret.of_fsem Tryz.func9 rfl (Eq.mp (laws_szDec_eq a0 a1_p a1_n a1_c a2 left w R) h)
def laws_toMoney (a0 : ByteArray) (a1 : Bool) (a2_p : Option Addr) (a2_n : Nat) (a2_c : Nat) (w : World) (R : Value → World → Prop) : Prop :=
  ∀ (r : Nat) (wv : World), New w (.cells ⟨[(.string a0), (.bool a1), (.slice a2_p a2_n a2_c)]⟩ 26 (0, 0)) r wv →
  ∀ (r_1 : Nat) (wv_1 : World), New wv (.cells ⟨[(.string ByteArray.empty), (.bool false), (.slice none 0 0)]⟩ 33 (0, 0)) r_1 wv_1 →
  ∀ (r_2 : Nat) (wv_2 : World), New wv_1 (.cells ⟨[(.string ByteArray.empty), (.bool false), (.slice none 0 0)]⟩ 33 (0, 0)) r_2 wv_2 →
  ∃ (t5 : ByteArray), Loads P 9 ((⟨r, 0, none⟩ : Addr).add 0) (.string t5) wv_2 ∧ ∃ wv_3, Stores P 9 ((⟨r_2, 0, none⟩ : Addr).add 0) (.string t5) wv_2 wv_3 ∧
  ∃ (t80 : Bool) (t81_p : Option Addr) (t81_n : Nat) (t81_c : Nat), Loads P 24 ((⟨r, 0, none⟩ : Addr).add 1) (.agg #[(.bool t80), (.slice t81_p t81_n t81_c)]) wv_3 ∧ Calls P 44 ⟨[(.agg #[(.bool t80), (.slice t81_p t81_n t81_c)])]⟩ wv_3 fun e wv_4 =>
  ∃ (t90 : Bool) (t91_p : Option Addr) (t91_n : Nat) (t91_c : Nat), e = .returned (.agg #[(.bool t90), (.slice t91_p t91_n t91_c)]) ∧
  ∃ wv_5, Stores P 31 ((⟨r_2, 0, none⟩ : Addr).add 1) (.agg #[(.bool t90), (.slice t91_p t91_n t91_c)]) wv_4 wv_5 ∧
  ∃ (t110 : ByteArray) (t111 : Bool) (t112_p : Option Addr) (t112_n : Nat) (t112_c : Nat), Loads P 33 ⟨r_2, 0, none⟩ (.agg #[(.string t110), (.bool t111), (.slice t112_p t112_n t112_c)]) wv_5 ∧ ∃ wv_6, Stores P 33 ⟨r_1, 0, none⟩ (.agg #[(.string t110), (.bool t111), (.slice t112_p t112_n t112_c)]) wv_5 wv_6 ∧
  ∃ (r0 : ByteArray) (r1 : Bool) (r2_p : Option Addr) (r2_n : Nat) (r2_c : Nat), Loads P 33 ⟨r_1, 0, none⟩ (.agg #[(.string r0), (.bool r1), (.slice r2_p r2_n r2_c)]) wv_6 ∧ R (.agg #[(.string r0), (.bool r1), (.slice r2_p r2_n r2_c)]) wv_6
theorem laws_toMoney_eq (a0 : ByteArray) (a1 : Bool) (a2_p : Option Addr) (a2_n : Nat) (a2_c : Nat) (w : World) (R : Value → World → Prop) : laws_toMoney a0 a1 a2_p a2_n a2_c w R = fsem P Tryz.f11 (fun k => []) [(.agg #[(.string a0), (.bool a1), (.slice a2_p a2_n a2_c)])] R w := by kernel_rfl
theorem laws_toMoney_ret {a0 : ByteArray} {a1 : Bool} {a2_p : Option Addr} {a2_n : Nat} {a2_c : Nat} {w : World} {R : Value → World → Prop} (h : laws_toMoney a0 a1 a2_p a2_n a2_c w R) : Ret P 11 [(.agg #[(.string a0), (.bool a1), (.slice a2_p a2_n a2_c)])] w R :=
  Ret.of_fsem Tryz.func11 rfl (Eq.mp (laws_toMoney_eq a0 a1 a2_p a2_n a2_c w R) h)
def laws_toDec (a0 : Bool) (a1_p : Option Addr) (a1_n : Nat) (a1_c : Nat) (a2 : Int) (w : World) (R : Value → World → Prop) : Prop :=
  ∀ (r : Nat) (wv : World), New w (.cells ⟨[(.bool a0), (.slice a1_p a1_n a1_c), (.int .i64 a2)]⟩ 28 (0, 0)) r wv →
  ∀ (r_1 : Nat) (wv_1 : World), New wv (.cells ⟨[(.bool false), (.slice none 0 0), (.int .i64 0)]⟩ 40 (0, 0)) r_1 wv_1 →
  ∀ (r_2 : Nat) (wv_2 : World), New wv_1 (.cells ⟨[(.bool false), (.slice none 0 0), (.int .i64 0)]⟩ 40 (0, 0)) r_2 wv_2 →
  ∃ (t50 : Bool) (t51_p : Option Addr) (t51_n : Nat) (t51_c : Nat), Loads P 24 ((⟨r, 0, none⟩ : Addr).add 0) (.agg #[(.bool t50), (.slice t51_p t51_n t51_c)]) wv_2 ∧ Calls P 44 ⟨[(.agg #[(.bool t50), (.slice t51_p t51_n t51_c)])]⟩ wv_2 fun e wv_3 =>
  ∃ (t60 : Bool) (t61_p : Option Addr) (t61_n : Nat) (t61_c : Nat), e = .returned (.agg #[(.bool t60), (.slice t61_p t61_n t61_c)]) ∧
  ∃ wv_4, Stores P 31 ((⟨r_2, 0, none⟩ : Addr).add 0) (.agg #[(.bool t60), (.slice t61_p t61_n t61_c)]) wv_3 wv_4 ∧
  ∃ (t9 : Int), Loads P 3 ((⟨r, 0, none⟩ : Addr).add 2) (.int .i64 t9) wv_4 ∧ ∃ wv_5, Stores P 3 ((⟨r_2, 0, none⟩ : Addr).add 2) (.int .i64 t9) wv_4 wv_5 ∧
  ∃ (t110 : Bool) (t111_p : Option Addr) (t111_n : Nat) (t111_c : Nat) (t112 : Int), Loads P 40 ⟨r_2, 0, none⟩ (.agg #[(.bool t110), (.slice t111_p t111_n t111_c), (.int .i64 t112)]) wv_5 ∧ ∃ wv_6, Stores P 40 ⟨r_1, 0, none⟩ (.agg #[(.bool t110), (.slice t111_p t111_n t111_c), (.int .i64 t112)]) wv_5 wv_6 ∧
  ∃ (r0 : Bool) (r1_p : Option Addr) (r1_n : Nat) (r1_c : Nat) (r2 : Int), Loads P 40 ⟨r_1, 0, none⟩ (.agg #[(.bool r0), (.slice r1_p r1_n r1_c), (.int .i64 r2)]) wv_6 ∧ R (.agg #[(.bool r0), (.slice r1_p r1_n r1_c), (.int .i64 r2)]) wv_6
theorem laws_toDec_eq (a0 : Bool) (a1_p : Option Addr) (a1_n : Nat) (a1_c : Nat) (a2 : Int) (w : World) (R : Value → World → Prop) : laws_toDec a0 a1_p a1_n a1_c a2 w R = fsem P Tryz.f12 (fun k => []) [(.agg #[(.bool a0), (.slice a1_p a1_n a1_c), (.int .i64 a2)])] R w := by kernel_rfl
theorem laws_toDec_ret {a0 : Bool} {a1_p : Option Addr} {a1_n : Nat} {a1_c : Nat} {a2 : Int} {w : World} {R : Value → World → Prop} (h : laws_toDec a0 a1_p a1_n a1_c a2 w R) : Ret P 12 [(.agg #[(.bool a0), (.slice a1_p a1_n a1_c), (.int .i64 a2)])] w R :=
  Ret.of_fsem Tryz.func12 rfl (Eq.mp (laws_toDec_eq a0 a1_p a1_n a1_c a2 w R) h)
def laws_eqMoney (a0 : ByteArray) (a1 : Bool) (a2_p : Option Addr) (a2_n : Nat) (a2_c : Nat) (b0 : ByteArray) (b1 : Bool) (b2_p : Option Addr) (b2_n : Nat) (b2_c : Nat) (w : World) (R : Value → World → Prop) : Prop :=
  ∀ (r : Nat) (wv : World), New w (.cells ⟨[(.string a0), (.bool a1), (.slice a2_p a2_n a2_c)]⟩ 33 (0, 0)) r wv →
  ∀ (r_1 : Nat) (wv_1 : World), New wv (.cells ⟨[(.string b0), (.bool b1), (.slice b2_p b2_n b2_c)]⟩ 33 (0, 0)) r_1 wv_1 →
  ∃ (t6 : ByteArray), Loads P 9 ((⟨r, 0, none⟩ : Addr).add 0) (.string t6) wv_1 ∧ ∃ (t8 : ByteArray), Loads P 9 ((⟨r_1, 0, none⟩ : Addr).add 0) (.string t8) wv_1 ∧ ((decide (t6 ≠ t8)) = true →
    R (.bool false) wv_1) ∧
  ((decide (t6 ≠ t8)) = false →
    ∃ (t110 : Bool) (t111_p : Option Addr) (t111_n : Nat) (t111_c : Nat), Loads P 31 ((⟨r, 0, none⟩ : Addr).add 1) (.agg #[(.bool t110), (.slice t111_p t111_n t111_c)]) wv_1 ∧ ∃ (t130 : Bool) (t131_p : Option Addr) (t131_n : Nat) (t131_c : Nat), Loads P 31 ((⟨r_1, 0, none⟩ : Addr).add 1) (.agg #[(.bool t130), (.slice t131_p t131_n t131_c)]) wv_1 ∧ Calls P 51 ⟨[(.agg #[(.bool t110), (.slice t111_p t111_n t111_c)]), (.agg #[(.bool t130), (.slice t131_p t131_n t131_c)])]⟩ wv_1 fun e wv_2 =>
    ∃ (t14 : Bool), e = .returned (.bool t14) ∧
    ((!t14) = true →
      R (.bool false) wv_2) ∧
    ((!t14) = false →
      R (.bool true) wv_2))
theorem laws_eqMoney_eq (a0 : ByteArray) (a1 : Bool) (a2_p : Option Addr) (a2_n : Nat) (a2_c : Nat) (b0 : ByteArray) (b1 : Bool) (b2_p : Option Addr) (b2_n : Nat) (b2_c : Nat) (w : World) (R : Value → World → Prop) : laws_eqMoney a0 a1 a2_p a2_n a2_c b0 b1 b2_p b2_n b2_c w R = fsem P Tryz.f14 (fun k => []) [(.agg #[(.string a0), (.bool a1), (.slice a2_p a2_n a2_c)]), (.agg #[(.string b0), (.bool b1), (.slice b2_p b2_n b2_c)])] R w := by kernel_rfl
theorem laws_eqMoney_ret {a0 : ByteArray} {a1 : Bool} {a2_p : Option Addr} {a2_n : Nat} {a2_c : Nat} {b0 : ByteArray} {b1 : Bool} {b2_p : Option Addr} {b2_n : Nat} {b2_c : Nat} {w : World} {R : Value → World → Prop} (h : laws_eqMoney a0 a1 a2_p a2_n a2_c b0 b1 b2_p b2_n b2_c w R) : Ret P 14 [(.agg #[(.string a0), (.bool a1), (.slice a2_p a2_n a2_c)]), (.agg #[(.string b0), (.bool b1), (.slice b2_p b2_n b2_c)])] w R :=
  Ret.of_fsem Tryz.func14 rfl (Eq.mp (laws_eqMoney_eq a0 a1 a2_p a2_n a2_c b0 b1 b2_p b2_n b2_c w R) h)
def laws_eqRat (a0 : Bool) (a1_p : Option Addr) (a1_n : Nat) (a1_c : Nat) (a2_p : Option Addr) (a2_n : Nat) (a2_c : Nat) (b0 : Bool) (b1_p : Option Addr) (b1_n : Nat) (b1_c : Nat) (b2_p : Option Addr) (b2_n : Nat) (b2_c : Nat) (w : World) (R : Value → World → Prop) : Prop :=
  ∀ (r : Nat) (wv : World), New w (.cells ⟨[(.bool a0), (.slice a1_p a1_n a1_c), (.slice a2_p a2_n a2_c)]⟩ 35 (0, 0)) r wv →
  ∀ (r_1 : Nat) (wv_1 : World), New wv (.cells ⟨[(.bool b0), (.slice b1_p b1_n b1_c), (.slice b2_p b2_n b2_c)]⟩ 35 (0, 0)) r_1 wv_1 →
  ∃ (t60 : Bool) (t61_p : Option Addr) (t61_n : Nat) (t61_c : Nat), Loads P 31 ((⟨r, 0, none⟩ : Addr).add 0) (.agg #[(.bool t60), (.slice t61_p t61_n t61_c)]) wv_1 ∧ ∃ (t80 : Bool) (t81_p : Option Addr) (t81_n : Nat) (t81_c : Nat), Loads P 31 ((⟨r_1, 0, none⟩ : Addr).add 0) (.agg #[(.bool t80), (.slice t81_p t81_n t81_c)]) wv_1 ∧ Calls P 51 ⟨[(.agg #[(.bool t60), (.slice t61_p t61_n t61_c)]), (.agg #[(.bool t80), (.slice t81_p t81_n t81_c)])]⟩ wv_1 fun e wv_2 =>
  ∃ (t9 : Bool), e = .returned (.bool t9) ∧
  ((!t9) = true →
    R (.bool false) wv_2) ∧
  ((!t9) = false →
    ∃ (t12_p : Option Addr) (t12_n : Nat) (t12_c : Nat), Loads P 22 ((⟨r, 0, none⟩ : Addr).add 2) (.slice t12_p t12_n t12_c) wv_2 ∧ ∃ (t14_p : Option Addr) (t14_n : Nat) (t14_c : Nat), Loads P 22 ((⟨r_1, 0, none⟩ : Addr).add 2) (.slice t14_p t14_n t14_c) wv_2 ∧ Calls P 52 ⟨[(.slice t12_p t12_n t12_c), (.slice t14_p t14_n t14_c)]⟩ wv_2 fun e_1 wv_3 =>
    ∃ (t15 : Bool), e_1 = .returned (.bool t15) ∧
    ((!t15) = true →
      R (.bool false) wv_3) ∧
    ((!t15) = false →
      R (.bool true) wv_3))
theorem laws_eqRat_eq (a0 : Bool) (a1_p : Option Addr) (a1_n : Nat) (a1_c : Nat) (a2_p : Option Addr) (a2_n : Nat) (a2_c : Nat) (b0 : Bool) (b1_p : Option Addr) (b1_n : Nat) (b1_c : Nat) (b2_p : Option Addr) (b2_n : Nat) (b2_c : Nat) (w : World) (R : Value → World → Prop) : laws_eqRat a0 a1_p a1_n a1_c a2_p a2_n a2_c b0 b1_p b1_n b1_c b2_p b2_n b2_c w R = fsem P Tryz.f15 (fun k => []) [(.agg #[(.bool a0), (.slice a1_p a1_n a1_c), (.slice a2_p a2_n a2_c)]), (.agg #[(.bool b0), (.slice b1_p b1_n b1_c), (.slice b2_p b2_n b2_c)])] R w := by kernel_rfl
theorem laws_eqRat_ret {a0 : Bool} {a1_p : Option Addr} {a1_n : Nat} {a1_c : Nat} {a2_p : Option Addr} {a2_n : Nat} {a2_c : Nat} {b0 : Bool} {b1_p : Option Addr} {b1_n : Nat} {b1_c : Nat} {b2_p : Option Addr} {b2_n : Nat} {b2_c : Nat} {w : World} {R : Value → World → Prop} (h : laws_eqRat a0 a1_p a1_n a1_c a2_p a2_n a2_c b0 b1_p b1_n b1_c b2_p b2_n b2_c w R) : Ret P 15 [(.agg #[(.bool a0), (.slice a1_p a1_n a1_c), (.slice a2_p a2_n a2_c)]), (.agg #[(.bool b0), (.slice b1_p b1_n b1_c), (.slice b2_p b2_n b2_c)])] w R :=
  Ret.of_fsem Tryz.func15 rfl (Eq.mp (laws_eqRat_eq a0 a1_p a1_n a1_c a2_p a2_n a2_c b0 b1_p b1_n b1_c b2_p b2_n b2_c w R) h)
def laws_eqDec (a0 : Bool) (a1_p : Option Addr) (a1_n : Nat) (a1_c : Nat) (a2 : Int) (b0 : Bool) (b1_p : Option Addr) (b1_n : Nat) (b1_c : Nat) (b2 : Int) (w : World) (R : Value → World → Prop) : Prop :=
  ∀ (r : Nat) (wv : World), New w (.cells ⟨[(.bool a0), (.slice a1_p a1_n a1_c), (.int .i64 a2)]⟩ 40 (0, 0)) r wv →
  ∀ (r_1 : Nat) (wv_1 : World), New wv (.cells ⟨[(.bool b0), (.slice b1_p b1_n b1_c), (.int .i64 b2)]⟩ 40 (0, 0)) r_1 wv_1 →
  ∃ (t60 : Bool) (t61_p : Option Addr) (t61_n : Nat) (t61_c : Nat), Loads P 31 ((⟨r, 0, none⟩ : Addr).add 0) (.agg #[(.bool t60), (.slice t61_p t61_n t61_c)]) wv_1 ∧ ∃ (t80 : Bool) (t81_p : Option Addr) (t81_n : Nat) (t81_c : Nat), Loads P 31 ((⟨r_1, 0, none⟩ : Addr).add 0) (.agg #[(.bool t80), (.slice t81_p t81_n t81_c)]) wv_1 ∧ Calls P 51 ⟨[(.agg #[(.bool t60), (.slice t61_p t61_n t61_c)]), (.agg #[(.bool t80), (.slice t81_p t81_n t81_c)])]⟩ wv_1 fun e wv_2 =>
  ∃ (t9 : Bool), e = .returned (.bool t9) ∧
  ((!t9) = true →
    R (.bool false) wv_2) ∧
  ((!t9) = false →
    ∃ (t12 : Int), Loads P 3 ((⟨r, 0, none⟩ : Addr).add 2) (.int .i64 t12) wv_2 ∧ ∃ (t14 : Int), Loads P 3 ((⟨r_1, 0, none⟩ : Addr).add 2) (.int .i64 t14) wv_2 ∧ ((decide ((t12 : Int) ≠ t14)) = true →
      R (.bool false) wv_2) ∧
    ((decide ((t12 : Int) ≠ t14)) = false →
      R (.bool true) wv_2))
theorem laws_eqDec_eq (a0 : Bool) (a1_p : Option Addr) (a1_n : Nat) (a1_c : Nat) (a2 : Int) (b0 : Bool) (b1_p : Option Addr) (b1_n : Nat) (b1_c : Nat) (b2 : Int) (w : World) (R : Value → World → Prop) : laws_eqDec a0 a1_p a1_n a1_c a2 b0 b1_p b1_n b1_c b2 w R = fsem P Tryz.f16 (fun k => []) [(.agg #[(.bool a0), (.slice a1_p a1_n a1_c), (.int .i64 a2)]), (.agg #[(.bool b0), (.slice b1_p b1_n b1_c), (.int .i64 b2)])] R w := by kernel_rfl
theorem laws_eqDec_ret {a0 : Bool} {a1_p : Option Addr} {a1_n : Nat} {a1_c : Nat} {a2 : Int} {b0 : Bool} {b1_p : Option Addr} {b1_n : Nat} {b1_c : Nat} {b2 : Int} {w : World} {R : Value → World → Prop} (h : laws_eqDec a0 a1_p a1_n a1_c a2 b0 b1_p b1_n b1_c b2 w R) : Ret P 16 [(.agg #[(.bool a0), (.slice a1_p a1_n a1_c), (.int .i64 a2)]), (.agg #[(.bool b0), (.slice b1_p b1_n b1_c), (.int .i64 b2)])] w R :=
  Ret.of_fsem Tryz.func16 rfl (Eq.mp (laws_eqDec_eq a0 a1_p a1_n a1_c a2 b0 b1_p b1_n b1_c b2 w R) h)
def laws_markMoney (a0 : ByteArray) (a1 : Bool) (a2_p : Option Addr) (a2_n : Nat) (a2_c : Nat) (k : Int) (w : World) (R : Value → World → Prop) : Prop :=
  ∀ (r : Nat) (wv : World), New w (.cells ⟨[(.string a0), (.bool a1), (.slice a2_p a2_n a2_c)]⟩ 33 (0, 0)) r wv →
  ∃ (t60 : Bool) (t61_p : Option Addr) (t61_n : Nat) (t61_c : Nat), Loads P 31 ((⟨r, 0, none⟩ : Addr).add 1) (.agg #[(.bool t60), (.slice t61_p t61_n t61_c)]) wv ∧ Calls P 53 ⟨[(.agg #[(.bool t60), (.slice t61_p t61_n t61_c)]), (.int .i64 k)]⟩ wv fun e wv_1 =>
  ∃ (t8 : Int), e = .returned (.int .i64 t8) ∧
  R (.int .i64 t8) wv_1
theorem laws_markMoney_eq (a0 : ByteArray) (a1 : Bool) (a2_p : Option Addr) (a2_n : Nat) (a2_c : Nat) (k : Int) (w : World) (R : Value → World → Prop) : laws_markMoney a0 a1 a2_p a2_n a2_c k w R = fsem P Tryz.f17 (fun k => []) [(.agg #[(.string a0), (.bool a1), (.slice a2_p a2_n a2_c)]), (.int .i64 k)] R w := by kernel_rfl
theorem laws_markMoney_ret {a0 : ByteArray} {a1 : Bool} {a2_p : Option Addr} {a2_n : Nat} {a2_c : Nat} {k : Int} {w : World} {R : Value → World → Prop} (h : laws_markMoney a0 a1 a2_p a2_n a2_c k w R) : Ret P 17 [(.agg #[(.string a0), (.bool a1), (.slice a2_p a2_n a2_c)]), (.int .i64 k)] w R :=
  Ret.of_fsem Tryz.func17 rfl (Eq.mp (laws_markMoney_eq a0 a1 a2_p a2_n a2_c k w R) h)
def laws_markDec (a0 : Bool) (a1_p : Option Addr) (a1_n : Nat) (a1_c : Nat) (a2 : Int) (k : Int) (w : World) (R : Value → World → Prop) : Prop :=
  ∀ (r : Nat) (wv : World), New w (.cells ⟨[(.bool a0), (.slice a1_p a1_n a1_c), (.int .i64 a2)]⟩ 40 (0, 0)) r wv →
  ∃ (t60 : Bool) (t61_p : Option Addr) (t61_n : Nat) (t61_c : Nat), Loads P 31 ((⟨r, 0, none⟩ : Addr).add 0) (.agg #[(.bool t60), (.slice t61_p t61_n t61_c)]) wv ∧ Calls P 53 ⟨[(.agg #[(.bool t60), (.slice t61_p t61_n t61_c)]), (.int .i64 k)]⟩ wv fun e wv_1 =>
  ∃ (t8 : Int), e = .returned (.int .i64 t8) ∧
  R (.int .i64 t8) wv_1
theorem laws_markDec_eq (a0 : Bool) (a1_p : Option Addr) (a1_n : Nat) (a1_c : Nat) (a2 : Int) (k : Int) (w : World) (R : Value → World → Prop) : laws_markDec a0 a1_p a1_n a1_c a2 k w R = fsem P Tryz.f18 (fun k => []) [(.agg #[(.bool a0), (.slice a1_p a1_n a1_c), (.int .i64 a2)]), (.int .i64 k)] R w := by kernel_rfl
theorem laws_markDec_ret {a0 : Bool} {a1_p : Option Addr} {a1_n : Nat} {a1_c : Nat} {a2 : Int} {k : Int} {w : World} {R : Value → World → Prop} (h : laws_markDec a0 a1_p a1_n a1_c a2 k w R) : Ret P 18 [(.agg #[(.bool a0), (.slice a1_p a1_n a1_c), (.int .i64 a2)]), (.int .i64 k)] w R :=
  Ret.of_fsem Tryz.func18 rfl (Eq.mp (laws_markDec_eq a0 a1_p a1_n a1_c a2 k w R) h)
def laws_markRat (a0 : Bool) (a1_p : Option Addr) (a1_n : Nat) (a1_c : Nat) (a2_p : Option Addr) (a2_n : Nat) (a2_c : Nat) (k : Int) (w : World) (R : Value → World → Prop) : Prop :=
  ∀ (r : Nat) (wv : World), New w (.cells ⟨[(.bool a0), (.slice a1_p a1_n a1_c), (.slice a2_p a2_n a2_c)]⟩ 35 (0, 0)) r wv →
  ∃ (t60 : Bool) (t61_p : Option Addr) (t61_n : Nat) (t61_c : Nat), Loads P 31 ((⟨r, 0, none⟩ : Addr).add 0) (.agg #[(.bool t60), (.slice t61_p t61_n t61_c)]) wv ∧ Calls P 53 ⟨[(.agg #[(.bool t60), (.slice t61_p t61_n t61_c)]), (.int .i64 k)]⟩ wv fun e wv_1 =>
  ∃ (t8 : Int), e = .returned (.int .i64 t8) ∧
  ∃ (t10_p : Option Addr) (t10_n : Nat) (t10_c : Nat), Loads P 22 ((⟨r, 0, none⟩ : Addr).add 2) (.slice t10_p t10_n t10_c) wv_1 ∧ Calls P 54 ⟨[(.slice t10_p t10_n t10_c), (.int .i64 t8)]⟩ wv_1 fun e_1 wv_2 =>
  ∃ (t12 : Int), e_1 = .returned (.int .i64 t12) ∧
  R (.int .i64 t12) wv_2
theorem laws_markRat_eq (a0 : Bool) (a1_p : Option Addr) (a1_n : Nat) (a1_c : Nat) (a2_p : Option Addr) (a2_n : Nat) (a2_c : Nat) (k : Int) (w : World) (R : Value → World → Prop) : laws_markRat a0 a1_p a1_n a1_c a2_p a2_n a2_c k w R = fsem P Tryz.f19 (fun k => []) [(.agg #[(.bool a0), (.slice a1_p a1_n a1_c), (.slice a2_p a2_n a2_c)]), (.int .i64 k)] R w := by kernel_rfl
theorem laws_markRat_ret {a0 : Bool} {a1_p : Option Addr} {a1_n : Nat} {a1_c : Nat} {a2_p : Option Addr} {a2_n : Nat} {a2_c : Nat} {k : Int} {w : World} {R : Value → World → Prop} (h : laws_markRat a0 a1_p a1_n a1_c a2_p a2_n a2_c k w R) : Ret P 19 [(.agg #[(.bool a0), (.slice a1_p a1_n a1_c), (.slice a2_p a2_n a2_c)]), (.int .i64 k)] w R :=
  Ret.of_fsem Tryz.func19 rfl (Eq.mp (laws_markRat_eq a0 a1_p a1_n a1_c a2_p a2_n a2_c k w R) h)
def laws_heldMoney (a0 : ByteArray) (a1 : Bool) (a2_p : Option Addr) (a2_n : Nat) (a2_c : Nat) (k : Int) (w : World) (R : Value → World → Prop) : Prop :=
  ∀ (r : Nat) (wv : World), New w (.cells ⟨[(.string a0), (.bool a1), (.slice a2_p a2_n a2_c)]⟩ 33 (0, 0)) r wv →
  ∃ (t60 : Bool) (t61_p : Option Addr) (t61_n : Nat) (t61_c : Nat), Loads P 31 ((⟨r, 0, none⟩ : Addr).add 1) (.agg #[(.bool t60), (.slice t61_p t61_n t61_c)]) wv ∧ Calls P 55 ⟨[(.agg #[(.bool t60), (.slice t61_p t61_n t61_c)]), (.int .i64 k)]⟩ wv fun e wv_1 =>
  ∃ (t8 : Int), e = .returned (.int .i64 t8) ∧
  ((decide ((t8 : Int) < 0)) = true →
    R (.int .i64 (-1)) wv_1) ∧
  ((decide ((t8 : Int) < 0)) = false →
    R (.int .i64 t8) wv_1)
theorem laws_heldMoney_eq (a0 : ByteArray) (a1 : Bool) (a2_p : Option Addr) (a2_n : Nat) (a2_c : Nat) (k : Int) (w : World) (R : Value → World → Prop) : laws_heldMoney a0 a1 a2_p a2_n a2_c k w R = fsem P Tryz.f20 (fun k => []) [(.agg #[(.string a0), (.bool a1), (.slice a2_p a2_n a2_c)]), (.int .i64 k)] R w := by kernel_rfl
theorem laws_heldMoney_ret {a0 : ByteArray} {a1 : Bool} {a2_p : Option Addr} {a2_n : Nat} {a2_c : Nat} {k : Int} {w : World} {R : Value → World → Prop} (h : laws_heldMoney a0 a1 a2_p a2_n a2_c k w R) : Ret P 20 [(.agg #[(.string a0), (.bool a1), (.slice a2_p a2_n a2_c)]), (.int .i64 k)] w R :=
  Ret.of_fsem Tryz.func20 rfl (Eq.mp (laws_heldMoney_eq a0 a1 a2_p a2_n a2_c k w R) h)
def laws_heldRat (a0 : Bool) (a1_p : Option Addr) (a1_n : Nat) (a1_c : Nat) (a2_p : Option Addr) (a2_n : Nat) (a2_c : Nat) (k : Int) (w : World) (R : Value → World → Prop) : Prop :=
  ∀ (r : Nat) (wv : World), New w (.cells ⟨[(.bool a0), (.slice a1_p a1_n a1_c), (.slice a2_p a2_n a2_c)]⟩ 35 (0, 0)) r wv →
  ∃ (t60 : Bool) (t61_p : Option Addr) (t61_n : Nat) (t61_c : Nat), Loads P 31 ((⟨r, 0, none⟩ : Addr).add 0) (.agg #[(.bool t60), (.slice t61_p t61_n t61_c)]) wv ∧ Calls P 55 ⟨[(.agg #[(.bool t60), (.slice t61_p t61_n t61_c)]), (.int .i64 k)]⟩ wv fun e wv_1 =>
  ∃ (t8 : Int), e = .returned (.int .i64 t8) ∧
  ((decide ((t8 : Int) < 0)) = true →
    R (.int .i64 (-1)) wv_1) ∧
  ((decide ((t8 : Int) < 0)) = false →
    ∃ (t12_p : Option Addr) (t12_n : Nat) (t12_c : Nat), Loads P 22 ((⟨r, 0, none⟩ : Addr).add 2) (.slice t12_p t12_n t12_c) wv_1 ∧ Calls P 56 ⟨[(.slice t12_p t12_n t12_c), (.int .i64 t8)]⟩ wv_1 fun e_1 wv_2 =>
    ∃ (t14 : Int), e_1 = .returned (.int .i64 t14) ∧
    ((decide ((t14 : Int) < 0)) = true →
      R (.int .i64 (-1)) wv_2) ∧
    ((decide ((t14 : Int) < 0)) = false →
      R (.int .i64 t14) wv_2))
theorem laws_heldRat_eq (a0 : Bool) (a1_p : Option Addr) (a1_n : Nat) (a1_c : Nat) (a2_p : Option Addr) (a2_n : Nat) (a2_c : Nat) (k : Int) (w : World) (R : Value → World → Prop) : laws_heldRat a0 a1_p a1_n a1_c a2_p a2_n a2_c k w R = fsem P Tryz.f21 (fun k => []) [(.agg #[(.bool a0), (.slice a1_p a1_n a1_c), (.slice a2_p a2_n a2_c)]), (.int .i64 k)] R w := by kernel_rfl
theorem laws_heldRat_ret {a0 : Bool} {a1_p : Option Addr} {a1_n : Nat} {a1_c : Nat} {a2_p : Option Addr} {a2_n : Nat} {a2_c : Nat} {k : Int} {w : World} {R : Value → World → Prop} (h : laws_heldRat a0 a1_p a1_n a1_c a2_p a2_n a2_c k w R) : Ret P 21 [(.agg #[(.bool a0), (.slice a1_p a1_n a1_c), (.slice a2_p a2_n a2_c)]), (.int .i64 k)] w R :=
  Ret.of_fsem Tryz.func21 rfl (Eq.mp (laws_heldRat_eq a0 a1_p a1_n a1_c a2_p a2_n a2_c k w R) h)
def laws_szSigned (a0 : Bool) (a1_p : Option Addr) (a1_n : Nat) (a1_c : Nat) (left : Int) (w : World) (R : Value → World → Prop) : Prop :=
  ∀ (r : Nat) (wv : World), New w (.cells ⟨[(.bool a0), (.slice a1_p a1_n a1_c)]⟩ 24 (0, 0)) r wv →
  ∃ (t6_p : Option Addr) (t6_n : Nat) (t6_c : Nat), Loads P 22 ((⟨r, 0, none⟩ : Addr).add 1) (.slice t6_p t6_n t6_c) wv ∧ Calls P 80 ⟨[(.slice t6_p t6_n t6_c), (.int .i64 left)]⟩ wv fun e wv_1 =>
  ∃ (t8 : Int), e = .returned (.int .i64 t8) ∧
  ((decide ((t8 : Int) < 0)) = true →
    R (.int .i64 (-1)) wv_1) ∧
  ((decide ((t8 : Int) < 0)) = false →
    R (.int .i64 t8) wv_1)
theorem laws_szSigned_eq (a0 : Bool) (a1_p : Option Addr) (a1_n : Nat) (a1_c : Nat) (left : Int) (w : World) (R : Value → World → Prop) : laws_szSigned a0 a1_p a1_n a1_c left w R = fsem P Tryz.f37 (fun k => []) [(.agg #[(.bool a0), (.slice a1_p a1_n a1_c)]), (.int .i64 left)] R w := by kernel_rfl
theorem laws_szSigned_ret {a0 : Bool} {a1_p : Option Addr} {a1_n : Nat} {a1_c : Nat} {left : Int} {w : World} {R : Value → World → Prop} (h : laws_szSigned a0 a1_p a1_n a1_c left w R) : Ret P 37 [(.agg #[(.bool a0), (.slice a1_p a1_n a1_c)]), (.int .i64 left)] w R :=
  Ret.of_fsem Tryz.func37 rfl (Eq.mp (laws_szSigned_eq a0 a1_p a1_n a1_c left w R) h)
def laws_toSigned (a0 : Bool) (a1_p : Option Addr) (a1_n : Nat) (a1_c : Nat) (w : World) (R : Value → World → Prop) : Prop :=
  ∀ (r : Nat) (wv : World), New w (.cells ⟨[(.bool a0), (.slice a1_p a1_n a1_c)]⟩ 24 (0, 0)) r wv →
  ∀ (r_1 : Nat) (wv_1 : World), New wv (.cells ⟨[(.bool false), (.slice none 0 0)]⟩ 31 (0, 0)) r_1 wv_1 →
  ∀ (r_2 : Nat) (wv_2 : World), New wv_1 (.cells ⟨[(.bool false), (.slice none 0 0)]⟩ 31 (0, 0)) r_2 wv_2 →
  ∃ (t5 : Bool), Loads P 4 ((⟨r, 0, none⟩ : Addr).add 0) (.bool t5) wv_2 ∧ ∃ wv_3, Stores P 4 ((⟨r_2, 0, none⟩ : Addr).add 0) (.bool t5) wv_2 wv_3 ∧
  ∃ (t8_p : Option Addr) (t8_n : Nat) (t8_c : Nat), Loads P 22 ((⟨r, 0, none⟩ : Addr).add 1) (.slice t8_p t8_n t8_c) wv_3 ∧ Calls P 92 ⟨[(.slice t8_p t8_n t8_c)]⟩ wv_3 fun e wv_4 =>
  ∃ (t9_p : Option Addr) (t9_n : Nat) (t9_c : Nat), e = .returned (.slice t9_p t9_n t9_c) ∧
  ∃ wv_5, Stores P 22 ((⟨r_2, 0, none⟩ : Addr).add 1) (.slice t9_p t9_n t9_c) wv_4 wv_5 ∧
  ∃ (t110 : Bool) (t111_p : Option Addr) (t111_n : Nat) (t111_c : Nat), Loads P 31 ⟨r_2, 0, none⟩ (.agg #[(.bool t110), (.slice t111_p t111_n t111_c)]) wv_5 ∧ ∃ wv_6, Stores P 31 ⟨r_1, 0, none⟩ (.agg #[(.bool t110), (.slice t111_p t111_n t111_c)]) wv_5 wv_6 ∧
  ∃ (r0 : Bool) (r1_p : Option Addr) (r1_n : Nat) (r1_c : Nat), Loads P 31 ⟨r_1, 0, none⟩ (.agg #[(.bool r0), (.slice r1_p r1_n r1_c)]) wv_6 ∧ R (.agg #[(.bool r0), (.slice r1_p r1_n r1_c)]) wv_6
theorem laws_toSigned_eq (a0 : Bool) (a1_p : Option Addr) (a1_n : Nat) (a1_c : Nat) (w : World) (R : Value → World → Prop) : laws_toSigned a0 a1_p a1_n a1_c w R = fsem P Tryz.f44 (fun k => []) [(.agg #[(.bool a0), (.slice a1_p a1_n a1_c)])] R w := by kernel_rfl
theorem laws_toSigned_ret {a0 : Bool} {a1_p : Option Addr} {a1_n : Nat} {a1_c : Nat} {w : World} {R : Value → World → Prop} (h : laws_toSigned a0 a1_p a1_n a1_c w R) : Ret P 44 [(.agg #[(.bool a0), (.slice a1_p a1_n a1_c)])] w R :=
  Ret.of_fsem Tryz.func44 rfl (Eq.mp (laws_toSigned_eq a0 a1_p a1_n a1_c w R) h)
def laws_eqSigned (a0 : Bool) (a1_p : Option Addr) (a1_n : Nat) (a1_c : Nat) (b0 : Bool) (b1_p : Option Addr) (b1_n : Nat) (b1_c : Nat) (w : World) (R : Value → World → Prop) : Prop :=
  ∀ (r : Nat) (wv : World), New w (.cells ⟨[(.bool a0), (.slice a1_p a1_n a1_c)]⟩ 31 (0, 0)) r wv →
  ∀ (r_1 : Nat) (wv_1 : World), New wv (.cells ⟨[(.bool b0), (.slice b1_p b1_n b1_c)]⟩ 31 (0, 0)) r_1 wv_1 →
  ∃ (t6 : Bool), Loads P 4 ((⟨r, 0, none⟩ : Addr).add 0) (.bool t6) wv_1 ∧ ∃ (t8 : Bool), Loads P 4 ((⟨r_1, 0, none⟩ : Addr).add 0) (.bool t8) wv_1 ∧ ((!(t6 == t8)) = true →
    R (.bool false) wv_1) ∧
  ((!(t6 == t8)) = false →
    ∃ (t11_p : Option Addr) (t11_n : Nat) (t11_c : Nat), Loads P 22 ((⟨r, 0, none⟩ : Addr).add 1) (.slice t11_p t11_n t11_c) wv_1 ∧ ∃ (t13_p : Option Addr) (t13_n : Nat) (t13_c : Nat), Loads P 22 ((⟨r_1, 0, none⟩ : Addr).add 1) (.slice t13_p t13_n t13_c) wv_1 ∧ Calls P 52 ⟨[(.slice t11_p t11_n t11_c), (.slice t13_p t13_n t13_c)]⟩ wv_1 fun e wv_2 =>
    ∃ (t14 : Bool), e = .returned (.bool t14) ∧
    ((!t14) = true →
      R (.bool false) wv_2) ∧
    ((!t14) = false →
      R (.bool true) wv_2))
theorem laws_eqSigned_eq (a0 : Bool) (a1_p : Option Addr) (a1_n : Nat) (a1_c : Nat) (b0 : Bool) (b1_p : Option Addr) (b1_n : Nat) (b1_c : Nat) (w : World) (R : Value → World → Prop) : laws_eqSigned a0 a1_p a1_n a1_c b0 b1_p b1_n b1_c w R = fsem P Tryz.f51 (fun k => []) [(.agg #[(.bool a0), (.slice a1_p a1_n a1_c)]), (.agg #[(.bool b0), (.slice b1_p b1_n b1_c)])] R w := by kernel_rfl
theorem laws_eqSigned_ret {a0 : Bool} {a1_p : Option Addr} {a1_n : Nat} {a1_c : Nat} {b0 : Bool} {b1_p : Option Addr} {b1_n : Nat} {b1_c : Nat} {w : World} {R : Value → World → Prop} (h : laws_eqSigned a0 a1_p a1_n a1_c b0 b1_p b1_n b1_c w R) : Ret P 51 [(.agg #[(.bool a0), (.slice a1_p a1_n a1_c)]), (.agg #[(.bool b0), (.slice b1_p b1_n b1_c)])] w R :=
  Ret.of_fsem Tryz.func51 rfl (Eq.mp (laws_eqSigned_eq a0 a1_p a1_n a1_c b0 b1_p b1_n b1_c w R) h)
def laws_eqIntS (a_p : Option Addr) (a_n : Nat) (a_c : Nat) (b_p : Option Addr) (b_n : Nat) (b_c : Nat) (w : World) (R : Value → World → Prop) : Prop :=
  ((decide ((((a_n : Nat) : Int) : Int) ≠ ((b_n : Nat) : Int))) = true →
    R (.bool false) w) ∧
  ((decide ((((a_n : Nat) : Int) : Int) ≠ ((b_n : Nat) : Int))) = false →
    ∃ (Inv : Int → World → Prop) (mu : Int → World → Nat), Inv 0 w ∧
    ∀ (junk : Fr) (wv : World) (i : Int), Inv i wv →
      ((decide ((i : Int) < ((a_n : Nat) : Int))) = true →
        (0 ≤ (i : Int) ∧ (i : Int) < (a_n : Nat)) ∧ ptrS a_p fun ad => ∃ (t20 : Int), (∀ wv_1, Ext wv.drew wv_1 → Loads P 3 (ad.add (i.toNat * 1)) (.int .i64 t20) wv_1) ∧ (0 ≤ (i : Int) ∧ (i : Int) < (b_n : Nat)) ∧ ptrS b_p fun ad_1 => ∃ (t24 : Int), (∀ wv_2, Ext wv.drew wv_2 → Loads P 3 (ad_1.add (i.toNat * 1)) (.int .i64 t24) wv_2) ∧ ((decide ((t20 : Int) ≠ t24)) = true →
          R (.bool false) wv.drew) ∧
        ((decide ((t20 : Int) ≠ t24)) = false →
          ∃ t16 : Int, t16 = IntKind.wrap .i64 (i + 1) ∧ Inv t16 wv.drew ∧ mu t16 wv.drew < mu i wv)) ∧
      ((decide ((i : Int) < ((a_n : Nat) : Int))) = false →
        R (.bool true) wv))
theorem laws_eqIntS_eq (a_p : Option Addr) (a_n : Nat) (a_c : Nat) (b_p : Option Addr) (b_n : Nat) (b_c : Nat) (w : World) (R : Value → World → Prop) : laws_eqIntS a_p a_n a_c b_p b_n b_c w R = fsem P Tryz.f52 (fun k => cond (Nat.beq k 5) [(5, .one (.int .i64))] ([])) [(.slice a_p a_n a_c), (.slice b_p b_n b_c)] R w := by kernel_rfl
theorem laws_eqIntS_ret {a_p : Option Addr} {a_n : Nat} {a_c : Nat} {b_p : Option Addr} {b_n : Nat} {b_c : Nat} {w : World} {R : Value → World → Prop} (h : laws_eqIntS a_p a_n a_c b_p b_n b_c w R) : Ret P 52 [(.slice a_p a_n a_c), (.slice b_p b_n b_c)] w R :=
  Ret.of_fsem Tryz.func52 rfl (Eq.mp (laws_eqIntS_eq a_p a_n a_c b_p b_n b_c w R) h)
def laws_markSigned (a0 : Bool) (a1_p : Option Addr) (a1_n : Nat) (a1_c : Nat) (k : Int) (w : World) (R : Value → World → Prop) : Prop :=
  ∀ (r : Nat) (wv : World), New w (.cells ⟨[(.bool a0), (.slice a1_p a1_n a1_c)]⟩ 31 (0, 0)) r wv →
  ∃ (t6_p : Option Addr) (t6_n : Nat) (t6_c : Nat), Loads P 22 ((⟨r, 0, none⟩ : Addr).add 1) (.slice t6_p t6_n t6_c) wv ∧ Calls P 54 ⟨[(.slice t6_p t6_n t6_c), (.int .i64 k)]⟩ wv fun e wv_1 =>
  ∃ (t8 : Int), e = .returned (.int .i64 t8) ∧
  R (.int .i64 t8) wv_1
theorem laws_markSigned_eq (a0 : Bool) (a1_p : Option Addr) (a1_n : Nat) (a1_c : Nat) (k : Int) (w : World) (R : Value → World → Prop) : laws_markSigned a0 a1_p a1_n a1_c k w R = fsem P Tryz.f53 (fun k => []) [(.agg #[(.bool a0), (.slice a1_p a1_n a1_c)]), (.int .i64 k)] R w := by kernel_rfl
theorem laws_markSigned_ret {a0 : Bool} {a1_p : Option Addr} {a1_n : Nat} {a1_c : Nat} {k : Int} {w : World} {R : Value → World → Prop} (h : laws_markSigned a0 a1_p a1_n a1_c k w R) : Ret P 53 [(.agg #[(.bool a0), (.slice a1_p a1_n a1_c)]), (.int .i64 k)] w R :=
  Ret.of_fsem Tryz.func53 rfl (Eq.mp (laws_markSigned_eq a0 a1_p a1_n a1_c k w R) h)
def laws_markIntS (a_p : Option Addr) (a_n : Nat) (a_c : Nat) (k : Int) (w : World) (R : Value → World → Prop) : Prop :=
  ∃ (Inv : Int → Int → World → Prop) (mu : Int → Int → World → Nat), Inv k 0 w ∧
  ∀ (junk : Fr) (wv : World) (k_1 : Int) (i : Int), Inv k_1 i wv →
    ((decide ((i : Int) < ((a_n : Nat) : Int))) = true →
      (0 ≤ (i : Int) ∧ (i : Int) < (a_n : Nat)) ∧ ptrS a_p fun ad => ∃ wv_1, Stores P 3 (ad.add (i.toNat * 1)) (.int .i64 k_1) wv wv_1 ∧
      ∃ t17 : Int, t17 = IntKind.wrap .i64 (k_1 + 1) ∧ ∃ t11 : Int, t11 = IntKind.wrap .i64 (i + 1) ∧ Inv t17 t11 wv_1 ∧ mu t17 t11 wv_1 < mu k_1 i wv) ∧
    ((decide ((i : Int) < ((a_n : Nat) : Int))) = false →
      R (.int .i64 k_1) wv)
theorem laws_markIntS_eq (a_p : Option Addr) (a_n : Nat) (a_c : Nat) (k : Int) (w : World) (R : Value → World → Prop) : laws_markIntS a_p a_n a_c k w R = fsem P Tryz.f54 (fun k => cond (Nat.beq k 3) [(1, .one (.int .i64)), (5, .one (.int .i64))] ([])) [(.slice a_p a_n a_c), (.int .i64 k)] R w := by kernel_rfl
theorem laws_markIntS_ret {a_p : Option Addr} {a_n : Nat} {a_c : Nat} {k : Int} {w : World} {R : Value → World → Prop} (h : laws_markIntS a_p a_n a_c k w R) : Ret P 54 [(.slice a_p a_n a_c), (.int .i64 k)] w R :=
  Ret.of_fsem Tryz.func54 rfl (Eq.mp (laws_markIntS_eq a_p a_n a_c k w R) h)
def laws_heldSigned (a0 : Bool) (a1_p : Option Addr) (a1_n : Nat) (a1_c : Nat) (k : Int) (w : World) (R : Value → World → Prop) : Prop :=
  ∀ (r : Nat) (wv : World), New w (.cells ⟨[(.bool a0), (.slice a1_p a1_n a1_c)]⟩ 31 (0, 0)) r wv →
  ∃ (t6_p : Option Addr) (t6_n : Nat) (t6_c : Nat), Loads P 22 ((⟨r, 0, none⟩ : Addr).add 1) (.slice t6_p t6_n t6_c) wv ∧ Calls P 56 ⟨[(.slice t6_p t6_n t6_c), (.int .i64 k)]⟩ wv fun e wv_1 =>
  ∃ (t8 : Int), e = .returned (.int .i64 t8) ∧
  ((decide ((t8 : Int) < 0)) = true →
    R (.int .i64 (-1)) wv_1) ∧
  ((decide ((t8 : Int) < 0)) = false →
    R (.int .i64 t8) wv_1)
theorem laws_heldSigned_eq (a0 : Bool) (a1_p : Option Addr) (a1_n : Nat) (a1_c : Nat) (k : Int) (w : World) (R : Value → World → Prop) : laws_heldSigned a0 a1_p a1_n a1_c k w R = fsem P Tryz.f55 (fun k => []) [(.agg #[(.bool a0), (.slice a1_p a1_n a1_c)]), (.int .i64 k)] R w := by kernel_rfl
theorem laws_heldSigned_ret {a0 : Bool} {a1_p : Option Addr} {a1_n : Nat} {a1_c : Nat} {k : Int} {w : World} {R : Value → World → Prop} (h : laws_heldSigned a0 a1_p a1_n a1_c k w R) : Ret P 55 [(.agg #[(.bool a0), (.slice a1_p a1_n a1_c)]), (.int .i64 k)] w R :=
  Ret.of_fsem Tryz.func55 rfl (Eq.mp (laws_heldSigned_eq a0 a1_p a1_n a1_c k w R) h)
def laws_heldIntS (a_p : Option Addr) (a_n : Nat) (a_c : Nat) (k : Int) (w : World) (R : Value → World → Prop) : Prop :=
  ∃ (Inv : Int → Int → World → Prop) (mu : Int → Int → World → Nat), Inv k 0 w ∧
  ∀ (junk : Fr) (wv : World) (k_1 : Int) (i : Int), Inv k_1 i wv →
    ((decide ((i : Int) < ((a_n : Nat) : Int))) = true →
      (0 ≤ (i : Int) ∧ (i : Int) < (a_n : Nat)) ∧ ptrS a_p fun ad => ∃ (t15 : Int), Loads P 3 (ad.add (i.toNat * 1)) (.int .i64 t15) wv ∧ ((decide ((t15 : Int) ≠ k_1)) = true →
        R (.int .i64 (-1)) wv) ∧
      ((decide ((t15 : Int) ≠ k_1)) = false →
        ∃ t19 : Int, t19 = IntKind.wrap .i64 (k_1 + 1) ∧ ∃ t11 : Int, t11 = IntKind.wrap .i64 (i + 1) ∧ Inv t19 t11 wv ∧ mu t19 t11 wv < mu k_1 i wv)) ∧
    ((decide ((i : Int) < ((a_n : Nat) : Int))) = false →
      R (.int .i64 k_1) wv)
theorem laws_heldIntS_eq (a_p : Option Addr) (a_n : Nat) (a_c : Nat) (k : Int) (w : World) (R : Value → World → Prop) : laws_heldIntS a_p a_n a_c k w R = fsem P Tryz.f56 (fun k => cond (Nat.beq k 3) [(1, .one (.int .i64)), (5, .one (.int .i64))] ([])) [(.slice a_p a_n a_c), (.int .i64 k)] R w := by kernel_rfl
theorem laws_heldIntS_ret {a_p : Option Addr} {a_n : Nat} {a_c : Nat} {k : Int} {w : World} {R : Value → World → Prop} (h : laws_heldIntS a_p a_n a_c k w R) : Ret P 56 [(.slice a_p a_n a_c), (.int .i64 k)] w R :=
  Ret.of_fsem Tryz.func56 rfl (Eq.mp (laws_heldIntS_eq a_p a_n a_c k w R) h)
def laws_szIntS (a_p : Option Addr) (a_n : Nat) (a_c : Nat) (left : Int) (w : World) (R : Value → World → Prop) : Prop :=
  ∃ t8 : Int, t8 = IntKind.wrap .i64 (left - ((a_n : Nat) : Int)) ∧ ((decide ((t8 : Int) < 0)) = true →
    R (.int .i64 (-1)) w) ∧
  ((decide ((t8 : Int) < 0)) = false →
    R (.int .i64 t8) w)
theorem laws_szIntS_eq (a_p : Option Addr) (a_n : Nat) (a_c : Nat) (left : Int) (w : World) (R : Value → World → Prop) : laws_szIntS a_p a_n a_c left w R = fsem P Tryz.f80 (fun k => []) [(.slice a_p a_n a_c), (.int .i64 left)] R w := by kernel_rfl
theorem laws_szIntS_ret {a_p : Option Addr} {a_n : Nat} {a_c : Nat} {left : Int} {w : World} {R : Value → World → Prop} (h : laws_szIntS a_p a_n a_c left w R) : Ret P 80 [(.slice a_p a_n a_c), (.int .i64 left)] w R :=
  Ret.of_fsem Tryz.func80 rfl (Eq.mp (laws_szIntS_eq a_p a_n a_c left w R) h)
def laws_toIntS (a_p : Option Addr) (a_n : Nat) (a_c : Nat) (w : World) (R : Value → World → Prop) : Prop :=
  (0 ≤ (((a_n : Nat) : Int) : Int) ∧ (((a_n : Nat) : Int) : Int) ≤ ((a_n : Nat) : Int) ∧ ((8 : Nat) : Int) * ((a_n : Nat) : Int) ≤ 281474976710656) ∧
  ∀ (r : Nat) (wv : World), New w (.cells ⟨zeroRow (.int .i64 0) (a_n * 1)⟩ 3 (0, 0)) r wv →
  ∃ (Inv : Int → World → Prop) (mu : Int → World → Nat), Inv 0 wv ∧
  ∀ (junk : Fr) (wv_1 : World) (i : Int), Inv i wv_1 →
    ((decide ((i : Int) < ((a_n : Nat) : Int))) = true →
      (0 ≤ (i : Int) ∧ (i : Int) < (a_n : Nat)) ∧ ptrS a_p fun ad => ∃ (t19 : Int), Loads P 3 (ad.add (i.toNat * 1)) (.int .i64 t19) wv_1 ∧ (0 ≤ (i : Int) ∧ (i : Int) < (a_n : Nat)) ∧ ∃ wv_2, Stores P 3 ((⟨r, 0, none⟩ : Addr).add (i.toNat * 1)) (.int .i64 t19) wv_1 wv_2 ∧
      ∃ t13 : Int, t13 = IntKind.wrap .i64 (i + 1) ∧ Inv t13 wv_2 ∧ mu t13 wv_2 < mu i wv_1) ∧
    ((decide ((i : Int) < ((a_n : Nat) : Int))) = false →
      R (.slice (some ⟨r, 0, none⟩) a_n a_n) wv_1)
theorem laws_toIntS_eq (a_p : Option Addr) (a_n : Nat) (a_c : Nat) (w : World) (R : Value → World → Prop) : laws_toIntS a_p a_n a_c w R = fsem P Tryz.f92 (fun k => cond (Nat.beq k 4) [(4, .one (.int .i64))] ([])) [(.slice a_p a_n a_c)] R w := by kernel_rfl
theorem laws_toIntS_ret {a_p : Option Addr} {a_n : Nat} {a_c : Nat} {w : World} {R : Value → World → Prop} (h : laws_toIntS a_p a_n a_c w R) : Ret P 92 [(.slice a_p a_n a_c)] w R :=
  Ret.of_fsem Tryz.func92 rfl (Eq.mp (laws_toIntS_eq a_p a_n a_c w R) h)
end Go.Proofs.YtfemmmbkhhemaaaGreatDoor

namespace Go.Proofs.YtfemmmbkhhemaaaGreatDoor.Sx
open Go Go.RowKit
set_option linter.unusedVariables false
set_option linter.unusedSimpArgs false
/-- only blocks in S (and new ones) have turned -/
theorem Ext.le {a b : World} (h : Ext a b) : a.heap.size ≤ b.heap.size := h.size
def Seg (w : World) (b off : Nat) (cs : List Value) : Prop := ∀ j v, cs[j]? = some v → w.cell? ⟨b, off + j, none⟩ = some v
theorem Seg.nil {w : World} {b off : Nat} : Seg w b off [] := fun j v h => by simp at h
theorem Seg.drop {w : World} {b off : Nat} {cs : List Value} (h : Seg w b off cs) (k : Nat) : Seg w b (off + k) (cs.drop k) := fun j v hj => by
  rw [List.getElem?_drop] at hj
  have := h _ _ hj
  rwa [Nat.add_assoc]
theorem Seg.take {w : World} {b off : Nat} {cs : List Value} (h : Seg w b off cs) (k : Nat) : Seg w b off (cs.take k) := fun j v hj => by
  rw [List.getElem?_take] at hj
  split at hj
  · exact h _ _ hj
  · cases hj
theorem Seg.ext {w w' : World} {b off : Nat} {cs : List Value} (h : Seg w b off cs) (he : Ext w w') : Seg w' b off cs := fun j v hj => by
  have h1 := h j v hj
  rw [← h1]
  exact he.cell (World.block_lt_of_cell? w _ h1)
theorem Seg.chg {S : List Nat} {w w' : World} {b off : Nat} {cs : List Value} (h : Seg w b off cs) (he : Chg S w w') (hb : b ∉ S) : Seg w' b off cs := fun j v hj => by
  have h1 := h j v hj
  rw [← h1]
  exact World.cell?_of_block (he.block b (World.block_lt_of_cell? w _ h1) hb)
/-- a block that is known whole -/
def Blk (w : World) (b : Nat) (e : TypeId) (xs : List Value) : Prop := w.heap[b]? = some (.cells ⟨xs⟩ e (0, 0))
theorem Blk.lt {w : World} {b : Nat} {e : TypeId} {xs : List Value} (h : Blk w b e xs) : b < w.heap.size := (Array.getElem?_eq_some_iff.1 h).1
theorem Blk.ext {w w' : World} {b : Nat} {e : TypeId} {xs : List Value} (h : Blk w b e xs) (he : Ext w w') : Blk w' b e xs := (he.block b h.lt).trans h
theorem Blk.chg {S : List Nat} {w w' : World} {b : Nat} {e : TypeId} {xs : List Value} (h : Blk w b e xs) (he : Chg S w w') (hb : b ∉ S) : Blk w' b e xs := (he.block b h.lt hb).trans h
theorem Blk.cell {w : World} {b : Nat} {e : TypeId} {xs : List Value} (h : Blk w b e xs) (j : Nat) : w.cell? ⟨b, j, none⟩ = xs[j]? := by
  rw [cell_of_row w b j _ e (0, 0) h]; simp
theorem Blk.seg {w : World} {b : Nat} {e : TypeId} {xs : List Value} (h : Blk w b e xs) : Seg w b 0 xs := fun j v hj => by rw [Nat.zero_add, h.cell, hj]
theorem New.ext {w w' : World} {o : Obj} {r : Nat} (h : New w o r w') : Ext w w' := by
  obtain ⟨rfl, rfl⟩ := h
  exact (Below.refl _ _).alloc (Nat.le_refl _) _
theorem New.size {w w' : World} {o : Obj} {r : Nat} (h : New w o r w') : w'.heap.size = w.heap.size + 1 := by
  obtain ⟨rfl, rfl⟩ := h; simp
theorem New.blk {w w' : World} {xs : List Value} {e : TypeId} {r : Nat} (h : New w (.cells ⟨xs⟩ e (0, 0)) r w') : Blk w' r e xs := by
  obtain ⟨rfl, rfl⟩ := h
  exact heap_alloc_new w _
theorem addr_add (b o k : Nat) : (⟨b, o, none⟩ : Addr).add k = ⟨b, o + k, none⟩ := Addr.add_lit b o k
section
variable {P : Program}
/-- a type whose values lie in one cell -/
def cellT (P : Program) (t : TypeId) : Bool :=
  match P.underlying t, P.info? t with
  | some (.struct _), _ => false
  | some (.array _ _), _ => false
  | some _, some i => Nat.beq i.size 1
  | _, _ => false
/-- a type whose values are aggregates of so many cells -/
def aggT (P : Program) (t : TypeId) (n : Nat) : Bool :=
  match P.underlying t, P.info? t with
  | some (.struct _), some i => Nat.beq i.size n
  | some (.array _ _), some i => Nat.beq i.size n
  | _, _ => false
theorem cellT_spec {t : TypeId} (h : cellT P t = true) : (∀ w, (isAgg t).run P w = .ok false w) ∧ ∃ i, P.info? t = some i ∧ i.size = 1 := by
  unfold cellT at h
  split at h <;> try cases h
  rename_i d i hs ha hu hi
  refine ⟨fun w => ?_, i, hi, Nat.eq_of_beq_eq_true h⟩
  unfold isAgg
  rw [Sem.run_bind, underlying_run hu w]
  cases d <;> first | rfl | (exact absurd rfl (hs _)) | (exact absurd rfl (ha _ _))
theorem aggT_spec {t : TypeId} {n : Nat} (h : aggT P t n = true) : (∀ w, (isAgg t).run P w = .ok true w) ∧ ∃ i, P.info? t = some i ∧ i.size = n := by
  unfold aggT at h
  split at h
  · rename_i fs i hu hi
    exact ⟨fun w => by unfold isAgg; rw [Sem.run_bind, underlying_run hu w]; rfl, i, hi, Nat.eq_of_beq_eq_true h⟩
  · rename_i k e i hu hi
    exact ⟨fun w => by unfold isAgg; rw [Sem.run_bind, underlying_run hu w]; rfl, i, hi, Nat.eq_of_beq_eq_true h⟩
  · cases h
theorem loads1 {w : World} {t : TypeId} {b o : Nat} {v : Value} (ht : cellT P t = true) (h : w.cell? ⟨b, o, none⟩ = some v) : Loads P t ⟨b, o, none⟩ v w := by
  unfold Loads loadVar
  rw [Sem.run_bind, (cellT_spec ht).1]
  simp [h]
theorem loadsA {w : World} {t : TypeId} {b o : Nat} {cs : List Value} (ht : aggT P t cs.length = true) (h : Seg w b o cs) : Loads P t ⟨b, o, none⟩ (.agg ⟨cs⟩) w := by
  obtain ⟨h1, i, hi, hn⟩ := aggT_spec ht
  unfold Loads loadVar
  rw [Sem.run_bind, h1]
  simp only [Result.andThen_ok, if_true, Sem.run_bind, sizeOf_run hi, hn]
  rw [run_loadCells_list (P := P) w ⟨b, o, none⟩ cs fun j v hv => by rw [addr_add]; exact h j v hv]
  rfl
theorem Seg.load {w : World} {t : TypeId} {b o k : Nat} {cs : List Value} {v : Value} (h : Seg w b o cs) (ht : cellT P t = true) (hx : cs[k]? = some v) : Loads P t ((⟨b, o, none⟩ : Addr).add k) v w := by
  rw [addr_add]; exact loads1 ht (h _ _ hx)
theorem Seg.loadA {w : World} {t : TypeId} {b o k : Nat} {cs xs : List Value} (h : Seg w b o cs) (ht : aggT P t xs.length = true) (hx : (cs.drop k).take xs.length = xs) : Loads P t ((⟨b, o, none⟩ : Addr).add k) (.agg ⟨xs⟩) w := by
  rw [addr_add]
  refine loadsA ht ?_
  have := (h.drop k).take xs.length
  rwa [hx] at this
theorem Blk.load {w : World} {t : TypeId} {b k : Nat} {e : TypeId} {cs : List Value} {v : Value} (h : Blk w b e cs) (ht : cellT P t = true) (hx : cs[k]? = some v) : Loads P t ((⟨b, 0, none⟩ : Addr).add k) v w :=
  h.seg.load ht hx
theorem Blk.loadA {w : World} {t : TypeId} {b k : Nat} {e : TypeId} {cs xs : List Value} (h : Blk w b e cs) (ht : aggT P t xs.length = true) (hx : (cs.drop k).take xs.length = xs) : Loads P t ((⟨b, 0, none⟩ : Addr).add k) (.agg ⟨xs⟩) w :=
  h.seg.loadA ht hx
theorem setRow_chg (w : World) (b : Nat) (cs : Array Value) : Chg [b] w (w.setRow b cs) :=
  ⟨rfl, rfl, rfl, by simp, fun k _ hk => setRow_other w b k _ (by simpa using hk)⟩
/-- a store into a block that is known whole -/
theorem Blk.store {w : World} {t : TypeId} {b k : Nat} {e : TypeId} {cs : List Value} {v : Value} (h : Blk w b e cs) (ht : cellT P t = true) (hk : k < cs.length) (hv : v.oneCell' = true) :
    ∃ w', Stores P t ((⟨b, 0, none⟩ : Addr).add k) v w w' ∧ Blk w' b e (cs.set k v) ∧ Chg [b] w w' ∧ w'.heap.size = w.heap.size := by
  obtain ⟨_, i, hi, hn⟩ := cellT_spec ht
  have hc : v.cells = #[v] := by cases v <;> first | rfl | (simp [Value.oneCell'] at hv)
  have hst := run_storeCells_at P b k e [v] 0 ⟨cs⟩ w h (by simp only [List.length_cons, List.length_nil]; show k + 0 + 1 ≤ cs.length; omega) (by simpa using hv)
  refine ⟨_, ?_, setRow_heap w b ⟨cs⟩ _ e _ h, setRow_chg _ _ _, by simp⟩
  · unfold Stores storeVar
    rw [addr_add, Nat.zero_add]
    simp only [Sem.run_bind, sizeOf_run hi, Result.andThen_ok, hc, hn, List.size_toArray, List.length_cons, List.length_nil]
    simp only [Nat.zero_add, ne_eq, not_true, if_false, Sem.run_pure, Result.andThen_ok]
    rw [hst]
    congr 3
    simp only [Nat.add_zero, List.length_cons, List.length_nil, Nat.zero_add]
    rw [List.set_eq_take_append_cons_drop]
    simp [hk]
/-- a store of an aggregate -/
theorem Blk.storeA {w : World} {t : TypeId} {b k : Nat} {e : TypeId} {cs xs : List Value} (h : Blk w b e cs) (ht : aggT P t xs.length = true) (hk : k + xs.length ≤ cs.length) (hv : ∀ v ∈ xs, v.oneCell' = true) :
    ∃ w', Stores P t ((⟨b, 0, none⟩ : Addr).add k) (.agg ⟨xs⟩) w w' ∧ Blk w' b e (cs.take k ++ xs ++ cs.drop (k + xs.length)) ∧ Chg [b] w w' ∧ w'.heap.size = w.heap.size := by
  obtain ⟨_, i, hi, hn⟩ := aggT_spec ht
  have hst := run_storeCells_at P b k e xs 0 ⟨cs⟩ w h (by simpa using hk) hv
  refine ⟨_, ?_, setRow_heap w b ⟨cs⟩ _ e _ h, setRow_chg _ _ _, by simp⟩
  unfold Stores storeVar
  rw [addr_add, Nat.zero_add]
  simp only [Sem.run_bind, sizeOf_run hi, Result.andThen_ok, Value.cells, hn, List.size_toArray]
  simp only [ne_eq, not_true, if_false, Sem.run_pure, Result.andThen_ok]
  rw [hst]
  simp
/-- a slice type: its element type, that one's zero value, cells and bytes -/
def sliceT (P : Program) (t e : TypeId) (z : Value) (size bytes : Nat) : Prop :=
  P.underlying t = some (.slice e) ∧ (P.info? e).map (fun i => (i.zero, i.size, i.bytes)) = some (some z, size, bytes) ∧ z.cells.size = size ∧ 0 < size
/-- a slice whose cells are one's own -/
def Own (w : World) (base : Nat) (e : TypeId) (size : Nat) (p : Option Addr) (n c : Nat) (xs : List Value) : Prop := w.ownsRow base e size (.slice p n c) n xs
theorem Own.nil (w : World) (base : Nat) (e : TypeId) (size : Nat) : Own w base e size none 0 0 [] := World.ownsRow_nil w base e size
theorem Own.ext {w w' : World} {base : Nat} {e : TypeId} {size : Nat} {p : Option Addr} {n c : Nat} {xs : List Value} (h : Own w base e size p n c xs) (he : Ext w w') : Own w' base e size p n c xs :=
  h.kept (row := none) ⟨he.os, he.tape, he.output, he.size, fun k hk _ => he.block k hk⟩ (by cases p <;> simp [Value.ownBlock])
theorem Own.of_blk {w : World} {base : Nat} {e : TypeId} {size : Nat} {r n : Nat} {xs : List Value} (h : Blk w r e xs) (hb : base ≤ r) (hl : xs.length = n * size) (hn : n ≤ maxLen) : Own w base e size (some ⟨r, 0, none⟩) n n xs :=
  ⟨hl, .inr ⟨r, n, ⟨xs⟩, rfl, hb, h, Nat.le_refl _, hn, by simpa using hl, by simp [← hl]⟩⟩
theorem Own.of_blk0 {w : World} {base : Nat} {e : TypeId} {size : Nat} {r n : Nat} {xs : List Value} (h : Blk w r e xs) (hb : base ≤ r) (hl : xs.length = n * size) (hn : n ≤ maxLen) : Own w base e size (some ⟨r, 0, none⟩) 0 n [] :=
  ⟨by simp, .inr ⟨r, n, ⟨xs⟩, rfl, hb, h, Nat.zero_le _, hn, by simpa using hl, by simp⟩⟩
theorem Own.len {w : World} {base : Nat} {e : TypeId} {size : Nat} {p : Option Addr} {n c : Nat} {xs : List Value} (h : Own w base e size p n c xs) : xs.length = n * size := h.1
theorem Own.le {w : World} {base : Nat} {e : TypeId} {size : Nat} {p : Option Addr} {n c : Nat} {xs : List Value} (h : Own w base e size p n c xs) : n ≤ c := by
  rcases h.2 with ⟨h1, h2⟩ | ⟨g, cap, cur, h1, _, _, h3, _⟩
  · omega
  · simp only [Value.slice.injEq] at h1; omega
theorem Own.capLe {w : World} {base : Nat} {e : TypeId} {size : Nat} {p : Option Addr} {n c : Nat} {xs : List Value} (h : Own w base e size p n c xs) : c ≤ 9223372036854775807 := by
  rcases h.2 with ⟨h1, h2⟩ | ⟨g, cap, cur, h1, _, _, h3, h4, _⟩
  · simp only [Value.slice.injEq] at h1; omega
  · simp only [Value.slice.injEq] at h1; simp only [maxLen] at h4; omega
theorem Own.seg {w : World} {base : Nat} {e : TypeId} {size : Nat} {p : Option Addr} {n c : Nat} {xs : List Value} (h : Own w base e size p n c xs) (hn : 0 < n) : ∃ b, p = some ⟨b, 0, none⟩ ∧ base ≤ b ∧ Seg w b 0 xs := by
  rcases h.2 with ⟨h1, h2⟩ | ⟨g, cap, cur, h1, hb, hg, h3, h4, h5, h6⟩
  · omega
  · simp only [Value.slice.injEq] at h1
    refine ⟨g, h1.1, hb, fun j v hj => ?_⟩
    rw [Nat.zero_add, cell_of_row w g j cur e (0, 0) hg]
    rw [← h6, List.getElem?_take] at hj
    split at hj
    · simpa using hj
    · cases hj
theorem Own.mono {w : World} {base base' : Nat} {e : TypeId} {size : Nat} {p : Option Addr} {n c : Nat} {xs : List Value} (h : Own w base e size p n c xs) (hb : base' ≤ base) : Own w base' e size p n c xs := by
  refine ⟨h.1, ?_⟩
  rcases h.2 with h1 | ⟨g, cap, cur, h1, h2, h3⟩
  · exact .inl h1
  · exact .inr ⟨g, cap, cur, h1, Nat.le_trans hb h2, h3⟩
/-- append onto a row of one's own: m elements that lie in a block known whole -/
theorem Own.append {w : World} {base : Nat} {t e : TypeId} {z : Value} {size bytes : Nat} {p : Option Addr} {n c r m mc : Nat} {xs news : List Value} (h : Own w base e size p n c xs)
    (hT : sliceT P t e z size bytes) (hb : base ≤ w.heap.size) (hr : Blk w r e news) (hl : news.length = m * size) (h1 : ∀ u ∈ news, u.oneCell' = true)
    (hbytes : (n + m) * bytes ≤ 140737488355328) (hby : 1 ≤ bytes) :
    ∃ p' c' w', Appends P [t, t] [.slice p n c, .slice (some ⟨r, 0, none⟩) m mc] (.slice p' (n + m) c') w w' ∧ Own w' base e size p' (n + m) c' (xs ++ news) ∧
      (∀ w0, Ext w0 w → w0.heap.size ≤ base → Ext w0 w') ∧ (∀ b e' ys, Blk w b e' ys → p.map (·.block) ≠ some b → Blk w' b e' ys) ∧
      (∀ b o ys, Seg w b o ys → p.map (·.block) ≠ some b → Seg w' b o ys) := by
  obtain ⟨hu, hi, hz, hs⟩ := hT
  cases hinf : P.info? e with
  | none => rw [hinf] at hi; cases hi
  | some i =>
    rw [hinf] at hi
    simp only [Option.map_some, Option.some.injEq, Prod.mk.injEq] at hi
    have hnm : n + m ≤ maxLen := by
      have : n + m ≤ (n + m) * bytes := Nat.le_mul_of_pos_right _ hby
      simp only [maxLen]; omega
    obtain ⟨v', w', hrun, hown, hgr, _⟩ := run_append_own (P := P) w base t 0 e i z size bytes hu hinf hi.1 hi.2.1 hi.2.2 hz hs (.slice p n c) n xs h ⟨r, 0, none⟩ m mc news hl
      (fun j u hj => by rw [addr_add, Nat.zero_add, hr.cell, hj]) h1 hnm hbytes hb
    have hlt := h.lt
    have hv : ∃ p' c', v' = .slice p' (n + m) c' := by
      rcases hown.2 with ⟨e1, e2⟩ | ⟨g, cap, cur, e1, _⟩
      · exact ⟨none, 0, by rw [e1, e2]⟩
      · exact ⟨_, _, e1⟩
    obtain ⟨p', c', rfl⟩ := hv
    have hob : (Value.slice p n c).ownBlock = p.map (·.block) := by cases p <;> rfl
    refine ⟨p', c', w', hrun, hown, ?_, ?_, ?_⟩
    · intro w0 hx hb0
      refine hx.chg (S := (p.map (·.block)).toList) ⟨hgr.os, hgr.tape, hgr.output, hgr.size, fun k hk hn => hgr.block k hk ?_⟩ ?_
      · rw [hob]; intro e; rw [← e] at hn; simp at hn
      · intro x hx'
        have := (hlt x (by rw [hob]; cases p <;> simp_all)).1
        omega
    · intro b e' ys hy hne
      exact (hgr.block b hy.lt (by rw [hob]; exact fun e => hne e.symm)).trans hy
    · intro b o ys hy hne j v hj
      have h3 := hy j v hj
      rw [← h3]
      exact World.cell?_of_block (hgr.block b (World.block_lt_of_cell? w _ h3) (by rw [hob]; exact fun e => hne e.symm))
end
/-- a slice of numbers reads as zs -/
def IntsR (w : World) (p : Option Addr) (n c : Nat) (zs : List Int) : Prop :=
  zs.length = n ∧ n ≤ c ∧ c ≤ 9223372036854775807 ∧ (0 < n → ∃ b off, p = some ⟨b, off, none⟩ ∧ Seg w b off (zs.map (Value.int .i64)))
theorem IntsR.ext {w w' : World} {p : Option Addr} {n c : Nat} {zs : List Int} (h : IntsR w p n c zs) (he : Ext w w') : IntsR w' p n c zs :=
  ⟨h.1, h.2.1, h.2.2.1, fun hn => let ⟨b, off, hp, hs⟩ := h.2.2.2 hn; ⟨b, off, hp, hs.ext he⟩⟩
theorem IntsR.chg {S : List Nat} {w w' : World} {p : Option Addr} {n c : Nat} {zs : List Int} (h : IntsR w p n c zs) (he : Chg S w w') (hS : ∀ b, p.map (·.block) = some b → b ∉ S) : IntsR w' p n c zs :=
  ⟨h.1, h.2.1, h.2.2.1, fun hn => let ⟨b, off, hp, hs⟩ := h.2.2.2 hn; ⟨b, off, hp, hs.chg he (hS b (by rw [hp]; rfl))⟩⟩
theorem IntsR.nil (w : World) (p : Option Addr) {c : Nat} (hc : c ≤ 9223372036854775807) : IntsR w p 0 c [] := ⟨rfl, Nat.zero_le _, hc, fun h => absurd h (by omega)⟩
theorem Own.ints {w : World} {base : Nat} {e : TypeId} {p : Option Addr} {n c : Nat} {zs : List Int} (h : Own w base e 1 p n c (zs.map (Value.int .i64))) : IntsR w p n c zs :=
  ⟨by simpa using h.len, h.le, h.capLe, fun hn => let ⟨b, hp, _, hs⟩ := h.seg hn; ⟨b, 0, hp, hs⟩⟩
/-- the cell of number k -/
theorem IntsR.at {P : Program} {w : World} {p : Option Addr} {n c k : Nat} {zs : List Int} (h : IntsR w p n c zs) {t : TypeId} (ht : cellT P t = true) (hk : k < n) :
    ∃ a, p = some a ∧ Loads P t (a.add (k * 1)) (.int .i64 (zs[k]'(by rw [h.1]; exact hk))) w := by
  obtain ⟨b, off, hp, hs⟩ := h.2.2.2 (by omega)
  refine ⟨_, hp, ?_⟩
  rw [Nat.mul_one]
  exact hs.load ht (by simp [List.getElem?_eq_getElem (by rw [h.1]; exact hk : k < zs.length)])
theorem wrap64 {e : Int} (h1 : -9223372036854775808 ≤ e) (h2 : e ≤ 9223372036854775807) : IntKind.wrap .i64 e = e := by
  simp only [IntKind.wrap, IntKind.bits, IntKind.signed]
  by_cases h0 : 0 ≤ e
  · have : e % (2 ^ 64 : Int) = e := Int.emod_eq_of_lt h0 (by omega)
    simp [this]; omega
  · have : e % (2 ^ 64 : Int) = e + 2 ^ 64 := by omega
    simp [this]; omega
/-- a sum that fits -/
theorem exW {e : Int} {Q : Int → Prop} (h : -9223372036854775808 ≤ e ∧ e ≤ 9223372036854775807) (hq : Q e) : ∃ z, z = IntKind.wrap .i64 e ∧ Q z := ⟨e, (wrap64 h.1 h.2).symm, hq⟩
/-- a test, both ways -/
theorem ifD {p : Prop} [Decidable p] {A B : Prop} (ha : p → A) (hb : ¬ p → B) : (decide p = true → A) ∧ (decide p = false → B) :=
  ⟨fun h => ha (of_decide_eq_true h), fun h => hb (of_decide_eq_false h)⟩
theorem ifN {b : Bool} {A B : Prop} (ha : b = false → A) (hb : b = true → B) : ((!b) = true → A) ∧ ((!b) = false → B) := ⟨fun h => ha (by simpa using h), fun h => hb (by simpa using h)⟩
theorem ifT {A B : Prop} (ha : A) : (true = true → A) ∧ (true = false → B) := ⟨fun _ => ha, fun h => nomatch h⟩
theorem ifF {A B : Prop} (hb : B) : (false = true → A) ∧ (false = false → B) := ⟨fun h => (nomatch h), fun _ => hb⟩
theorem zeroRow_int (k : IntKind) (z : Int) (n : Nat) : zeroRow (.int k z) n = List.replicate n (.int k z) := by
  unfold zeroRow
  apply List.ext_getElem
  · simp
  · intro i h1 h2
    simp [Value.cells, Nat.mod_one]
end Go.Proofs.YtfemmmbkhhemaaaGreatDoor.Sx

namespace Go.Proofs.YtfemmmbkhhemaaaGreatDoor.Sx
open Go Go.RowKit
set_option linter.unusedVariables false
set_option linter.unusedSimpArgs false
/-- what one cell reads as -/
inductive D0 where
  | int (n : Int) | bool (b : Bool) | str (s : ByteArray) | ints (l : List Int)
  deriving DecidableEq
inductive C0 where
  | int | bool | str | ints
  deriving DecidableEq
def D0.code : D0 → C0
  | .int _ => .int
  | .bool _ => .bool
  | .str _ => .str
  | .ints _ => .ints
def Rep0 (w : World) (v : Value) : D0 → Prop
  | .int n => v = .int .i64 n
  | .bool b => v = .bool b
  | .str s => v = .string s
  | .ints zs => ∃ p n c, v = .slice p n c ∧ IntsR w p n c zs
def Reps (w : World) : List Value → List D0 → Prop
  | [], [] => True
  | v :: vs, d :: ds => Rep0 w v d ∧ Reps w vs ds
  | _, _ => False
theorem Rep0.ext {w w' : World} {v : Value} {d : D0} (h : Rep0 w v d) (he : Ext w w') : Rep0 w' v d := by
  cases d <;> simp only [Rep0] at h ⊢ <;> try exact h
  obtain ⟨p, n, c, hv, hi⟩ := h
  exact ⟨p, n, c, hv, hi.ext he⟩
theorem Reps.ext {w w' : World} : ∀ {vs : List Value} {ds : List D0}, Reps w vs ds → Ext w w' → Reps w' vs ds
  | [], [], _, _ => trivial
  | [], _ :: _, h, _ => h.elim
  | _ :: _, [], h, _ => h.elim
  | _ :: _, _ :: _, h, he => ⟨h.1.ext he, Reps.ext h.2 he⟩
theorem Reps.len {w : World} : ∀ {vs : List Value} {ds : List D0}, Reps w vs ds → vs.length = ds.length
  | [], [], _ => rfl
  | [], _ :: _, h => h.elim
  | _ :: _, [], h => h.elim
  | _ :: _, _ :: _, h => by simp [Reps.len h.2]
theorem Reps.append {w : World} : ∀ {vs us : List Value} {ds es : List D0}, Reps w vs ds → Reps w us es → Reps w (vs ++ us) (ds ++ es)
  | [], _, [], _, _, k => k
  | [], _, _ :: _, _, h, _ => h.elim
  | _ :: _, _, [], _, h, _ => h.elim
  | _ :: _, _, _ :: _, _, h, k => ⟨h.1, Reps.append h.2 k⟩
theorem Reps.one {w : World} {vs : List Value} {ds : List D0} (h : Reps w vs ds) (h1 : ∀ v ∈ vs, v.oneCell' = true → True) : True := trivial
/-- every such cell is one cell -/
theorem Rep0.cell1 {w : World} {v : Value} {d : D0} (h : Rep0 w v d) : v.oneCell' = true := by
  cases d <;> simp only [Rep0] at h
  case ints l => obtain ⟨p, n, c, hv, _⟩ := h; rw [hv]; rfl
  all_goals (rw [h]; rfl)
theorem Reps.cells1 {w : World} : ∀ {vs : List Value} {ds : List D0}, Reps w vs ds → ∀ v ∈ vs, v.oneCell' = true
  | [], [], _, v, hv => by simp at hv
  | [], _ :: _, h, _, _ => h.elim
  | _ :: _, [], h, _, _ => h.elim
  | x :: xs, d :: ds, h, v, hv => by
    rcases List.mem_cons.1 hv with e | e
    · rw [e]; exact h.1.cell1
    · exact Reps.cells1 h.2 v e
/-- by its code, a list of cells comes written out -/
theorem Reps.int {w : World} {vs : List Value} {ds : List D0} {cs : List C0} (h : Reps w vs ds) (hc : ds.map D0.code = .int :: cs) : ∃ n us es, vs = .int .i64 n :: us ∧ ds = .int n :: es ∧ Reps w us es ∧ es.map D0.code = cs := by
  cases ds with
  | nil => simp at hc
  | cons d es =>
    cases vs with
    | nil => exact h.elim
    | cons v us =>
      simp only [List.map_cons, List.cons.injEq] at hc
      cases d <;> simp [D0.code] at hc
      rename_i n
      exact ⟨n, us, es, by rw [show v = _ from h.1], rfl, h.2, hc⟩
theorem Reps.bool {w : World} {vs : List Value} {ds : List D0} {cs : List C0} (h : Reps w vs ds) (hc : ds.map D0.code = .bool :: cs) : ∃ b us es, vs = .bool b :: us ∧ ds = .bool b :: es ∧ Reps w us es ∧ es.map D0.code = cs := by
  cases ds with
  | nil => simp at hc
  | cons d es =>
    cases vs with
    | nil => exact h.elim
    | cons v us =>
      simp only [List.map_cons, List.cons.injEq] at hc
      cases d <;> simp [D0.code] at hc
      rename_i n
      exact ⟨n, us, es, by rw [show v = _ from h.1], rfl, h.2, hc⟩
theorem Reps.str {w : World} {vs : List Value} {ds : List D0} {cs : List C0} (h : Reps w vs ds) (hc : ds.map D0.code = .str :: cs) : ∃ s us es, vs = .string s :: us ∧ ds = .str s :: es ∧ Reps w us es ∧ es.map D0.code = cs := by
  cases ds with
  | nil => simp at hc
  | cons d es =>
    cases vs with
    | nil => exact h.elim
    | cons v us =>
      simp only [List.map_cons, List.cons.injEq] at hc
      cases d <;> simp [D0.code] at hc
      rename_i n
      exact ⟨n, us, es, by rw [show v = _ from h.1], rfl, h.2, hc⟩
theorem Reps.ints {w : World} {vs : List Value} {ds : List D0} {cs : List C0} (h : Reps w vs ds) (hc : ds.map D0.code = .ints :: cs) :
    ∃ p n c zs us es, vs = .slice p n c :: us ∧ ds = .ints zs :: es ∧ IntsR w p n c zs ∧ Reps w us es ∧ es.map D0.code = cs := by
  cases ds with
  | nil => simp at hc
  | cons d es =>
    cases vs with
    | nil => exact h.elim
    | cons v us =>
      simp only [List.map_cons, List.cons.injEq] at hc
      cases d <;> simp [D0.code] at hc
      rename_i zs
      obtain ⟨p, n, c, hv, hi⟩ := h.1
      exact ⟨p, n, c, zs, us, es, by rw [hv], rfl, hi, h.2, hc⟩
theorem Reps.done {w : World} {vs : List Value} {ds : List D0} (h : Reps w vs ds) (hc : ds.map D0.code = []) : vs = [] ∧ ds = [] := by
  have : ds = [] := by simpa using hc
  subst this
  cases vs with
  | nil => exact ⟨rfl, rfl⟩
  | cons _ _ => exact h.elim
/-- a slice of structs of k cells -/
def RowsR (w : World) (k : Nat) (p : Option Addr) (n c : Nat) (l : List (List D0)) : Prop :=
  l.length = n ∧ n ≤ c ∧ c ≤ 9223372036854775807 ∧ (0 < n → ∃ b off, p = some ⟨b, off, none⟩ ∧ ∀ i x, l[i]? = some x → ∃ cs, cs.length = k ∧ Reps w cs x ∧ Seg w b (off + i * k) cs)
theorem RowsR.ext {w w' : World} {k : Nat} {p : Option Addr} {n c : Nat} {l : List (List D0)} (h : RowsR w k p n c l) (he : Ext w w') : RowsR w' k p n c l :=
  ⟨h.1, h.2.1, h.2.2.1, fun hn => let ⟨b, off, hp, hs⟩ := h.2.2.2 hn; ⟨b, off, hp, fun i x hx => let ⟨cs, h1, h2, h3⟩ := hs i x hx; ⟨cs, h1, h2.ext he, h3.ext he⟩⟩⟩
theorem RowsR.nil (w : World) (k : Nat) (p : Option Addr) {c : Nat} (hc : c ≤ 9223372036854775807) : RowsR w k p 0 c [] := ⟨rfl, Nat.zero_le _, hc, fun h => absurd h (by omega)⟩
/-- element i -/
theorem RowsR.at {P : Program} {w : World} {k : Nat} {p : Option Addr} {n c i : Nat} {l : List (List D0)} (h : RowsR w k p n c l) {t : TypeId} (ht : aggT P t k = true) (hi : i < n) :
    ∃ a cs, p = some a ∧ cs.length = k ∧ Reps w cs (l[i]'(by rw [h.1]; exact hi)) ∧ Loads P t (a.add (i * k)) (.agg ⟨cs⟩) w := by
  obtain ⟨b, off, hp, hs⟩ := h.2.2.2 (by omega)
  obtain ⟨cs, h1, h2, h3⟩ := hs i _ (List.getElem?_eq_getElem (by rw [h.1]; exact hi))
  refine ⟨_, cs, hp, h1, h2, ?_⟩
  rw [addr_add]
  exact loadsA (by rw [h1]; exact ht) h3
/-- how much there is of it -/
def D0.bulk : D0 → Nat
  | .str s => s.size
  | .ints l => l.length
  | _ => 0
def bulks (ds : List D0) : Nat := (ds.map D0.bulk).sum
/-- what a reading says of sizes -/
def D0.ok : D0 → Prop
  | .int n => -9223372036854775808 ≤ n ∧ n ≤ 9223372036854775807
  | .str s => s.size ≤ 9223372036854775807
  | .ints l => l.length ≤ 9223372036854775807
  | .bool _ => True
end Go.Proofs.YtfemmmbkhhemaaaGreatDoor.Sx

namespace Go.Proofs.YtfemmmbkhhemaaaGreatDoor.Sx
open Go Go.RowKit
set_option linter.unusedVariables false
set_option linter.unusedSimpArgs false
section
variable {P : Program}
theorem Blk.load0 {w : World} {t : TypeId} {b k : Nat} {e : TypeId} {cs : List Value} {v : Value} (h : Blk w b e cs) (ht : cellT P t = true) (hx : cs[k]? = some v) : Loads P t ⟨b, k, none⟩ v w :=
  loads1 ht (by rw [h.cell]; exact hx)
theorem Blk.loadA0 {w : World} {t : TypeId} {b : Nat} {e : TypeId} {cs : List Value} (h : Blk w b e cs) (ht : aggT P t cs.length = true) : Loads P t ⟨b, 0, none⟩ (.agg ⟨cs⟩) w :=
  loadsA ht h.seg
theorem Blk.storeA0 {w : World} {t : TypeId} {b : Nat} {e : TypeId} {cs xs : List Value} (h : Blk w b e cs) (ht : aggT P t xs.length = true) (hk : xs.length = cs.length) (hv : ∀ v ∈ xs, v.oneCell' = true) :
    ∃ w', Stores P t ⟨b, 0, none⟩ (.agg ⟨xs⟩) w w' ∧ Blk w' b e xs ∧ Chg [b] w w' ∧ w'.heap.size = w.heap.size := by
  obtain ⟨w', h1, h2, h3, h4⟩ := h.storeA (P := P) (k := 0) ht (by omega) hv
  rw [addr_add, Nat.zero_add] at h1
  refine ⟨w', h1, ?_, h3, h4⟩
  rw [List.take_zero, List.nil_append, Nat.zero_add, hk, List.drop_length, List.append_nil] at h2
  exact h2
end
def Own0 (w : World) (B : Nat) (v : Value) : D0 → List Nat → Prop
  | .int n, f => v = .int .i64 n ∧ f = []
  | .bool b, f => v = .bool b ∧ f = []
  | .str s, f => v = .string s ∧ f = []
  | .ints zs, f => ∃ p n c, v = .slice p n c ∧ Own w B T_int 1 p n c (zs.map (Value.int .i64)) ∧ f = (p.map (·.block)).toList
def Owns (w : World) (B : Nat) : List Value → List D0 → List Nat → Prop
  | [], [], f => f = []
  | v :: vs, d :: ds, f => ∃ f1 f2, f = f1 ++ f2 ∧ Own0 w B v d f1 ∧ Owns w B vs ds f2
  | _, _, _ => False
theorem Own0.rep {w : World} {B : Nat} {v : Value} {d : D0} {f : List Nat} (h : Own0 w B v d f) : Rep0 w v d := by
  cases d <;> simp only [Own0] at h <;> simp only [Rep0]
  case ints zs => obtain ⟨p, n, c, hv, ho, _⟩ := h; exact ⟨p, n, c, hv, ho.ints⟩
  all_goals exact h.1
theorem Owns.reps {w : World} {B : Nat} : ∀ {vs : List Value} {ds : List D0} {f : List Nat}, Owns w B vs ds f → Reps w vs ds
  | [], [], _, _ => trivial
  | [], _ :: _, _, h => h.elim
  | _ :: _, [], _, h => h.elim
  | _ :: _, _ :: _, _, h => by
    obtain ⟨f1, f2, _, h1, h2⟩ := h
    exact ⟨h1.rep, Owns.reps h2⟩
theorem Own0.lt {w : World} {B : Nat} {v : Value} {d : D0} {f : List Nat} (h : Own0 w B v d f) : ∀ k ∈ f, B ≤ k ∧ k < w.heap.size := by
  cases d <;> simp only [Own0] at h
  case ints zs =>
    obtain ⟨p, n, c, hv, ho, hf⟩ := h
    intro k hk
    rw [hf] at hk
    exact World.ownsRow.lt ho k (by cases p <;> simp_all [Value.ownBlock])
  all_goals (intro k hk; rw [h.2] at hk; simp at hk)
theorem Owns.lt {w : World} {B : Nat} : ∀ {vs : List Value} {ds : List D0} {f : List Nat}, Owns w B vs ds f → ∀ k ∈ f, B ≤ k ∧ k < w.heap.size
  | [], [], _, h, k, hk => by rw [h] at hk; simp at hk
  | [], _ :: _, _, h, _, _ => h.elim
  | _ :: _, [], _, h, _, _ => h.elim
  | _ :: _, _ :: _, _, h, k, hk => by
    obtain ⟨f1, f2, rfl, h1, h2⟩ := h
    rcases List.mem_append.1 hk with hk | hk
    · exact h1.lt k hk
    · exact Owns.lt h2 k hk
theorem Own0.ext {w w' : World} {B : Nat} {v : Value} {d : D0} {f : List Nat} (h : Own0 w B v d f) (he : Ext w w') : Own0 w' B v d f := by
  cases d <;> simp only [Own0] at h ⊢ <;> try exact h
  obtain ⟨p, n, c, hv, ho, hf⟩ := h
  exact ⟨p, n, c, hv, ho.ext he, hf⟩
theorem Owns.ext {w w' : World} {B : Nat} : ∀ {vs : List Value} {ds : List D0} {f : List Nat}, Owns w B vs ds f → Ext w w' → Owns w' B vs ds f
  | [], [], _, h, _ => h
  | [], _ :: _, _, h, _ => h.elim
  | _ :: _, [], _, h, _ => h.elim
  | _ :: _, _ :: _, _, h, he => by
    obtain ⟨f1, f2, rfl, h1, h2⟩ := h
    exact ⟨f1, f2, rfl, h1.ext he, Owns.ext h2 he⟩
theorem Own.chg {S : List Nat} {w w' : World} {B : Nat} {e : TypeId} {size : Nat} {p : Option Addr} {n c : Nat} {xs : List Value} (h : Own w B e size p n c xs) (he : Chg S w w') (hS : ∀ k, p.map (·.block) = some k → k ∉ S) : Own w' B e size p n c xs := by
  refine ⟨h.1, ?_⟩
  rcases h.2 with h1 | ⟨g, cap, cur, h1, h2, h3, h4⟩
  · exact .inl h1
  · refine .inr ⟨g, cap, cur, h1, h2, ?_, h4⟩
    simp only [Value.slice.injEq] at h1
    rw [he.block g (Array.getElem?_eq_some_iff.1 h3).1 (hS g (by rw [h1.1]; rfl))]
    exact h3
theorem Own0.chg {S : List Nat} {w w' : World} {B : Nat} {v : Value} {d : D0} {f : List Nat} (h : Own0 w B v d f) (he : Chg S w w') (hS : ∀ k ∈ f, k ∉ S) : Own0 w' B v d f := by
  cases d <;> simp only [Own0] at h ⊢ <;> try exact h
  obtain ⟨p, n, c, hv, ho, hf⟩ := h
  exact ⟨p, n, c, hv, ho.chg he (fun k hk => hS k (by rw [hf, hk]; simp)), hf⟩
theorem Owns.chg {S : List Nat} {w w' : World} {B : Nat} : ∀ {vs : List Value} {ds : List D0} {f : List Nat}, Owns w B vs ds f → Chg S w w' → (∀ k ∈ f, k ∉ S) → Owns w' B vs ds f
  | [], [], _, h, _, _ => h
  | [], _ :: _, _, h, _, _ => h.elim
  | _ :: _, [], _, h, _, _ => h.elim
  | _ :: _, _ :: _, _, h, he, hS => by
    obtain ⟨f1, f2, rfl, h1, h2⟩ := h
    exact ⟨f1, f2, rfl, h1.chg he (fun k hk => hS k (by simp [hk])), Owns.chg h2 he (fun k hk => hS k (by simp [hk]))⟩
/-- blocks from B on are not touched where only older ones turn -/
theorem Owns.chg1 {r : Nat} {w w' : World} {B : Nat} {vs : List Value} {ds : List D0} {f : List Nat} (h : Owns w B vs ds f) (he : Chg [r] w w') (hr : r < B) : Owns w' B vs ds f :=
  h.chg he fun k hk hm => by
    have := (h.lt k hk).1
    simp at hm; omega
theorem Own0.mono {w : World} {B B' : Nat} {v : Value} {d : D0} {f : List Nat} (h : Own0 w B v d f) (hb : B' ≤ B) : Own0 w B' v d f := by
  cases d <;> simp only [Own0] at h ⊢ <;> try exact h
  obtain ⟨p, n, c, hv, ho, hf⟩ := h
  exact ⟨p, n, c, hv, ho.mono hb, hf⟩
theorem Owns.mono {w : World} {B B' : Nat} (hb : B' ≤ B) : ∀ {vs : List Value} {ds : List D0} {f : List Nat}, Owns w B vs ds f → Owns w B' vs ds f
  | [], [], _, h => h
  | [], _ :: _, _, h => h.elim
  | _ :: _, [], _, h => h.elim
  | _ :: _, _ :: _, _, h => by
    obtain ⟨f1, f2, rfl, h1, h2⟩ := h
    exact ⟨f1, f2, rfl, h1.mono hb, Owns.mono hb h2⟩
theorem Owns.append {w : World} {B : Nat} : ∀ {vs us : List Value} {ds es : List D0} {f g : List Nat}, Owns w B vs ds f → Owns w B us es g → Owns w B (vs ++ us) (ds ++ es) (f ++ g)
  | [], _, [], _, f, g, h, k => by rw [show f = [] from h]; exact k
  | [], _, _ :: _, _, _, _, h, _ => h.elim
  | _ :: _, _, [], _, _, _, h, _ => h.elim
  | _ :: _, _, _ :: _, _, _, g, h, k => by
    obtain ⟨f1, f2, rfl, h1, h2⟩ := h
    exact ⟨f1, f2 ++ g, by simp, h1, Owns.append h2 k⟩
theorem Owns.nil (w : World) (B : Nat) : Owns w B [] [] [] := rfl
theorem Owns.bool (w : World) (B : Nat) (b : Bool) : Owns w B [.bool b] [.bool b] [] := ⟨[], [], rfl, ⟨rfl, rfl⟩, rfl⟩
theorem Owns.int (w : World) (B : Nat) (n : Int) : Owns w B [.int .i64 n] [.int n] [] := ⟨[], [], rfl, ⟨rfl, rfl⟩, rfl⟩
theorem Owns.str (w : World) (B : Nat) (s : ByteArray) : Owns w B [.string s] [.str s] [] := ⟨[], [], rfl, ⟨rfl, rfl⟩, rfl⟩
theorem Owns.ints {w : World} {B : Nat} {p : Option Addr} {n c : Nat} {zs : List Int} (h : Own w B T_int 1 p n c (zs.map (Value.int .i64))) : Owns w B [.slice p n c] [.ints zs] (p.map (·.block)).toList :=
  ⟨_, [], by simp, ⟨p, n, c, rfl, h, rfl⟩, rfl⟩
/-- what is older ahead of what is newer: no block twice -/
theorem nodup_append {f g : List Nat} {m : Nat} (hf : f.Nodup) (hg : g.Nodup) (h1 : ∀ k ∈ f, k < m) (h2 : ∀ k ∈ g, m ≤ k) : (f ++ g).Nodup := by
  rw [List.nodup_append]
  exact ⟨hf, hg, fun a ha b hb e => by have := h1 a ha; have := h2 b hb; omega⟩
/-- a load at an address in whatever form -/
theorem Blk.loadAt {P : Program} {w : World} {t : TypeId} {b : Nat} {e : TypeId} {cs : List Value} {v : Value} {a : Addr} (k : Nat) (h : Blk w b e cs) (ha : a = ⟨b, k, none⟩) (ht : cellT P t = true) (hx : cs[k]? = some v) : Loads P t a v w := by
  subst ha; exact h.load0 ht hx
theorem Blk.loadAAt {P : Program} {w : World} {t : TypeId} {b : Nat} {e : TypeId} {cs : List Value} {a : Addr} (k : Nat) (xs : List Value) (h : Blk w b e cs) (ha : a = ⟨b, k, none⟩) (ht : aggT P t xs.length = true) (hx : (cs.drop k).take xs.length = xs) : Loads P t a (.agg ⟨xs⟩) w := by
  subst ha
  have := h.loadA (P := P) (k := k) ht hx
  rwa [addr_add, Nat.zero_add] at this
theorem Seg.loadAt {P : Program} {w : World} {t : TypeId} {b o : Nat} {cs : List Value} {v : Value} {a : Addr} (k : Nat) (h : Seg w b o cs) (ha : a = ⟨b, o + k, none⟩) (ht : cellT P t = true) (hx : cs[k]? = some v) : Loads P t a v w := by
  subst ha; exact loads1 ht (h _ _ hx)
theorem Seg.loadAAt {P : Program} {w : World} {t : TypeId} {b o : Nat} {cs : List Value} {a : Addr} (k : Nat) (xs : List Value) (h : Seg w b o cs) (ha : a = ⟨b, o + k, none⟩) (ht : aggT P t xs.length = true) (hx : (cs.drop k).take xs.length = xs) : Loads P t a (.agg ⟨xs⟩) w := by
  subst ha
  have := h.loadA (P := P) (k := k) ht hx
  rwa [addr_add] at this
/-- a new variable, filled at once -/
theorem New.fill {P : Program} {w w1 : World} {zs : List Value} {e : TypeId} {r : Nat} (hn : New w (.cells ⟨zs⟩ e (0, 0)) r w1) {t : TypeId} {xs : List Value} (hv : ∀ v ∈ xs, v.oneCell' = true) (ht : aggT P t xs.length = true) (hl : xs.length = zs.length) :
    ∃ w2, Stores P t ⟨r, 0, none⟩ (.agg ⟨xs⟩) w1 w2 ∧ Blk w2 r e xs ∧ Ext w w2 := by
  obtain ⟨w2, st, hb, ch, sz⟩ := hn.blk.storeA0 (P := P) (t := t) ht hl hv
  exact ⟨w2, st, hb, hn.ext.chg ch (by have := hn.r_eq; simp; omega)⟩
def AllO (w : World) (B k : Nat) : List (List Value) → List (List D0) → List (List Nat) → Prop
  | [], [], [] => True
  | cs :: css, x :: l, f :: fs => cs.length = k ∧ Owns w B cs x f ∧ AllO w B k css l fs
  | _, _, _ => False
theorem AllO.ext {w w' : World} {B k : Nat} : ∀ {css : List (List Value)} {l : List (List D0)} {fs : List (List Nat)}, AllO w B k css l fs → Ext w w' → AllO w' B k css l fs
  | [], [], [], _, _ => trivial
  | _ :: _, _ :: _, _ :: _, h, he => ⟨h.1, h.2.1.ext he, AllO.ext h.2.2 he⟩
  | [], [], _ :: _, h, _ => h.elim
  | [], _ :: _, _, h, _ => h.elim
  | _ :: _, [], _, h, _ => h.elim
  | _ :: _, _ :: _, [], h, _ => h.elim
theorem AllO.chg {S : List Nat} {w w' : World} {B k : Nat} : ∀ {css : List (List Value)} {l : List (List D0)} {fs : List (List Nat)}, AllO w B k css l fs → Chg S w w' → (∀ x ∈ fs.flatten, x ∉ S) → AllO w' B k css l fs
  | [], [], [], _, _, _ => trivial
  | _ :: _, _ :: _, _ :: _, h, he, hS => ⟨h.1, h.2.1.chg he (fun x hx => hS x (by simp [hx])), AllO.chg h.2.2 he (fun x hx => hS x (by rw [List.flatten_cons]; exact List.mem_append_right _ hx))⟩
  | [], [], _ :: _, h, _, _ => h.elim
  | [], _ :: _, _, h, _, _ => h.elim
  | _ :: _, [], _, h, _, _ => h.elim
  | _ :: _, _ :: _, [], h, _, _ => h.elim
theorem AllO.mono {w : World} {B B' k : Nat} (hb : B' ≤ B) : ∀ {css : List (List Value)} {l : List (List D0)} {fs : List (List Nat)}, AllO w B k css l fs → AllO w B' k css l fs
  | [], [], [], _ => trivial
  | _ :: _, _ :: _, _ :: _, h => ⟨h.1, h.2.1.mono hb, AllO.mono hb h.2.2⟩
  | [], [], _ :: _, h => h.elim
  | [], _ :: _, _, h => h.elim
  | _ :: _, [], _, h => h.elim
  | _ :: _, _ :: _, [], h => h.elim
theorem AllO.lt {w : World} {B k : Nat} : ∀ {css : List (List Value)} {l : List (List D0)} {fs : List (List Nat)}, AllO w B k css l fs → ∀ x ∈ fs.flatten, B ≤ x ∧ x < w.heap.size
  | [], [], [], _, x, hx => by simp at hx
  | _ :: _, _ :: _, _ :: _, h, x, hx => by
    rw [List.flatten_cons, List.mem_append] at hx
    rcases hx with hx | hx
    · exact h.2.1.lt x hx
    · exact AllO.lt h.2.2 x hx
  | [], [], _ :: _, h, _, _ => h.elim
  | [], _ :: _, _, h, _, _ => h.elim
  | _ :: _, [], _, h, _, _ => h.elim
  | _ :: _, _ :: _, [], h, _, _ => h.elim
theorem AllO.snoc {w : World} {B k : Nat} {cs : List Value} {x : List D0} {f : List Nat} (hk : cs.length = k) (ho : Owns w B cs x f) : ∀ {css : List (List Value)} {l : List (List D0)} {fs : List (List Nat)}, AllO w B k css l fs → AllO w B k (css ++ [cs]) (l ++ [x]) (fs ++ [f])
  | [], [], [], _ => ⟨hk, ho, trivial⟩
  | _ :: _, _ :: _, _ :: _, h => ⟨h.1, h.2.1, AllO.snoc hk ho h.2.2⟩
  | [], [], _ :: _, h => h.elim
  | [], _ :: _, _, h => h.elim
  | _ :: _, [], _, h => h.elim
  | _ :: _, _ :: _, [], h => h.elim
theorem AllO.len {w : World} {B k : Nat} : ∀ {css : List (List Value)} {l : List (List D0)} {fs : List (List Nat)}, AllO w B k css l fs → css.length = l.length ∧ css.flatten.length = l.length * k
  | [], [], [], _ => ⟨rfl, by simp⟩
  | cs :: css, x :: l, _ :: _, h => by
    have := AllO.len h.2.2
    refine ⟨by simp [this.1], ?_⟩
    rw [List.flatten_cons, List.length_append, this.2, h.1, List.length_cons, Nat.succ_mul, Nat.add_comm]
  | [], [], _ :: _, h => h.elim
  | [], _ :: _, _, h => h.elim
  | _ :: _, [], _, h => h.elim
  | _ :: _, _ :: _, [], h => h.elim
theorem AllO.cells1 {w : World} {B k : Nat} : ∀ {css : List (List Value)} {l : List (List D0)} {fs : List (List Nat)}, AllO w B k css l fs → ∀ v ∈ css.flatten, v.oneCell' = true
  | [], [], [], _, v, hv => by simp at hv
  | _ :: _, _ :: _, _ :: _, h, v, hv => by
    rw [List.flatten_cons, List.mem_append] at hv
    rcases hv with hv | hv
    · exact h.2.1.reps.cells1 v hv
    · exact AllO.cells1 h.2.2 v hv
  | [], [], _ :: _, h, _, _ => h.elim
  | [], _ :: _, _, h, _, _ => h.elim
  | _ :: _, [], _, h, _, _ => h.elim
  | _ :: _, _ :: _, [], h, _, _ => h.elim
theorem AllO.at {w : World} {B k : Nat} : ∀ {css : List (List Value)} {l : List (List D0)} {fs : List (List Nat)}, AllO w B k css l fs → ∀ i x, l[i]? = some x → ∃ cs, cs.length = k ∧ Reps w cs x ∧ (css.flatten.drop (i * k)).take k = cs
  | [], [], [], _, i, x, hx => by simp at hx
  | cs :: css, y :: l, _ :: _, h, i, x, hx => by
    cases i with
    | zero =>
      simp only [List.getElem?_cons_zero, Option.some.injEq] at hx
      subst hx
      refine ⟨cs, h.1, h.2.1.reps, ?_⟩
      rw [Nat.zero_mul, List.drop_zero, List.flatten_cons, ← h.1, List.take_left]
    | succ i =>
      simp only [List.getElem?_cons_succ] at hx
      obtain ⟨c, h1, h2, h3⟩ := AllO.at h.2.2 i x hx
      refine ⟨c, h1, h2, ?_⟩
      rw [List.flatten_cons, Nat.succ_mul, Nat.add_comm, ← List.drop_drop, ← h.1, List.drop_left, h.1]
      exact h3
  | [], [], _ :: _, h, _, _, _ => h.elim
  | [], _ :: _, _, h, _, _, _ => h.elim
  | _ :: _, [], _, h, _, _, _ => h.elim
  | _ :: _, _ :: _, [], h, _, _, _ => h.elim
/-- a slice of structs that is one's own, and the blocks that it takes -/
def OwnRows (w : World) (B : Nat) (e : TypeId) (k : Nat) (p : Option Addr) (n c : Nat) (l : List (List D0)) (f : List Nat) : Prop :=
  l.length = n ∧ ∃ css fs, AllO w B k css l fs ∧ Own w B e k p n c css.flatten ∧ f = (p.map (·.block)).toList ++ fs.flatten ∧ f.Nodup
theorem OwnRows.lt {w : World} {B : Nat} {e : TypeId} {k : Nat} {p : Option Addr} {n c : Nat} {l : List (List D0)} {f : List Nat} (h : OwnRows w B e k p n c l f) : ∀ x ∈ f, B ≤ x ∧ x < w.heap.size := by
  obtain ⟨hl, css, fs, ha, ho, rfl, _⟩ := h
  intro x hx
  rcases List.mem_append.1 hx with hx | hx
  · exact World.ownsRow.lt ho x (by cases p <;> simp_all [Value.ownBlock])
  · exact ha.lt x hx
theorem OwnRows.ext {w w' : World} {B : Nat} {e : TypeId} {k : Nat} {p : Option Addr} {n c : Nat} {l : List (List D0)} {f : List Nat} (h : OwnRows w B e k p n c l f) (he : Ext w w') : OwnRows w' B e k p n c l f := by
  obtain ⟨hl, css, fs, ha, ho, hf, hn⟩ := h
  exact ⟨hl, css, fs, ha.ext he, ho.ext he, hf, hn⟩
theorem OwnRows.mono {w : World} {B B' : Nat} {e : TypeId} {k : Nat} {p : Option Addr} {n c : Nat} {l : List (List D0)} {f : List Nat} (h : OwnRows w B e k p n c l f) (hb : B' ≤ B) : OwnRows w B' e k p n c l f := by
  obtain ⟨hl, css, fs, ha, ho, hf, hn⟩ := h
  exact ⟨hl, css, fs, ha.mono hb, ho.mono hb, hf, hn⟩
theorem OwnRows.chg {S : List Nat} {w w' : World} {B : Nat} {e : TypeId} {k : Nat} {p : Option Addr} {n c : Nat} {l : List (List D0)} {f : List Nat} (h : OwnRows w B e k p n c l f) (he : Chg S w w') (hS : ∀ x ∈ f, x ∉ S) : OwnRows w' B e k p n c l f := by
  obtain ⟨hl, css, fs, ha, ho, rfl, hn⟩ := h
  exact ⟨hl, css, fs, ha.chg he (fun x hx => hS x (List.mem_append_right _ hx)), ho.chg he (fun x hx => hS x (List.mem_append_left _ (by rw [hx]; simp))), rfl, hn⟩
theorem dec_no {p : Prop} [Decidable p] (h : ¬ p) : Value.bool false = Value.bool (decide p) := by simp [h]
theorem dec_yes {p : Prop} [Decidable p] (h : p) : Value.bool true = Value.bool (decide p) := by simp [h]
end Go.Proofs.YtfemmmbkhhemaaaGreatDoor.Sx

namespace Go.Proofs.YtfemmmbkhhemaaaGreatDoor
open Go Go.Proofs.YtfemmmbkhhemaaaGreatDoor.Sx
set_option linter.unusedVariables false
set_option linter.unusedSimpArgs false
theorem take_set {α : Type} (l : List α) (d v : α) (k : Nat) (hk : k < l.length) (n : Nat) (hn : 0 < n) (h : l[k]? = some v) :
    (l.take k ++ List.replicate n d).set k v = l.take (k + 1) ++ List.replicate (n - 1) d := by
  have hlen : (l.take k).length = k := by simp; omega
  rw [List.set_append_right _ _ (by omega), hlen, Nat.sub_self]
  obtain ⟨m, rfl⟩ : ∃ m, n = m + 1 := ⟨n - 1, by omega⟩
  rw [List.replicate_succ, List.set_cons_zero, List.take_add_one, h]
  simp
theorem laws_toIntS_c {w : World} {p : Option Addr} {n c : Nat} {zs : List Int} (h : IntsR w p n c zs) (hn : n ≤ 1048576) :
    Ret P n_laws_toIntS [.slice p n c] w fun v w' => ∃ r, v = .slice (some ⟨r, 0, none⟩) n n ∧ Own w' w.heap.size T_int 1 (some ⟨r, 0, none⟩) n n (zs.map (Value.int .i64)) ∧ Ext w w' := by
  refine laws_toIntS_ret ?_
  unfold laws_toIntS
  refine ⟨⟨by omega, by omega, by omega⟩, fun r w1 hnew => ?_⟩
  have hlen := h.1
  refine ⟨fun i wr => ∃ k : Nat, i = k ∧ k ≤ n ∧ Ext w wr ∧ Blk wr r T_int ((zs.map (Value.int .i64)).take k ++ List.replicate (n - k) (Value.int .i64 0)), fun i _ => n - i.toNat, ⟨0, rfl, by omega, hnew.ext, ?_⟩, ?_⟩
  · have := hnew.blk
    rw [zeroRow_int, Nat.mul_one] at this
    simpa using this
  · intro junk wr i ⟨k, hik, hk, hx, hb⟩
    subst hik
    refine ifD (fun hlt => ?_) (fun hge => ?_)
    · have hlt' : k < n := by omega
      obtain ⟨a, rfl, hl⟩ := (h.ext hx).at (P := P) (t := T_int) (by kernel_rfl) hlt'
      have hl2 : ((zs.map (Value.int .i64)).take k ++ List.replicate (n - k) (Value.int .i64 0)).length = n := by simp; omega
      obtain ⟨w2, hst, hb2, hc, hs⟩ := hb.store (P := P) (t := T_int) (k := k) (v := .int .i64 (zs[k]'(by omega))) (by kernel_rfl) (by omega) rfl
      refine ⟨⟨by omega, by omega⟩, zs[k]'(by omega), by simpa using hl, ⟨by omega, by omega⟩, w2, by simpa using hst, exW ⟨by omega, by omega⟩ ⟨⟨k + 1, by omega, by omega, hx.chg hc (by simp; have := hnew.r_eq; omega), ?_⟩, by simp; omega⟩⟩
      rw [take_set _ _ _ _ (by simp; omega) _ (by omega) (by simp [show k < zs.length by omega])] at hb2
      rwa [show n - (k + 1) = n - k - 1 by omega]
    · have hkn : k = n := by omega
      subst hkn
      refine ⟨r, rfl, ?_, hx⟩
      rw [Nat.sub_self, List.replicate_zero, List.append_nil, List.take_of_length_le (by simp; omega)] at hb
      exact Own.of_blk hb (by have := hnew.r_eq; omega) (by simp; omega) (by simp only [maxLen]; omega)
theorem laws_szIntS_c {w : World} {p : Option Addr} {n c : Nat} {left : Int} (h0 : 0 ≤ left) (h1 : left ≤ 1048576) (hn : n ≤ 9223372036854775807) :
    Ret P n_laws_szIntS [.slice p n c, .int .i64 left] w fun v w' => ∃ r : Int, v = .int .i64 r ∧ (0 ≤ r → r + n ≤ left) ∧ r ≤ 1048576 ∧ Ext w w' := by
  refine laws_szIntS_ret ?_
  unfold laws_szIntS
  refine exW ⟨by omega, by omega⟩ (ifD (fun h => ⟨_, rfl, by omega, by omega, Ext.refl _⟩) (fun h => ⟨_, rfl, by omega, by omega, Ext.refl _⟩))
theorem laws_eqIntS_c {w : World} {p q : Option Addr} {n c m d : Nat} {zs ys : List Int} (h : IntsR w p n c zs) (k : IntsR w q m d ys) :
    Ret P n_laws_eqIntS [.slice p n c, .slice q m d] w fun v w' => v = .bool (decide (zs = ys)) ∧ Ext w w' := by
  refine laws_eqIntS_ret ?_
  unfold laws_eqIntS
  have hn : n ≤ 9223372036854775807 := Nat.le_trans h.2.1 h.2.2.1
  have hz := h.1
  have hy := k.1
  refine ifD (fun hne => ⟨?_, Ext.refl _⟩) (fun heq => ?_)
  · have : zs ≠ ys := fun e => hne (by rw [← hz, ← hy, e])
    simp [this]
  · have hnm : n = m := by omega
    refine ⟨fun i wr => ∃ j : Nat, i = j ∧ j ≤ n ∧ Ext w wr ∧ zs.take j = ys.take j, fun i _ => n - i.toNat, ⟨0, rfl, by omega, Ext.refl _, by simp⟩, ?_⟩
    intro junk wr i ⟨j, hij, hj, hx, he⟩
    subst hij
    refine ifD (fun hlt => ?_) (fun hge => ⟨?_, hx⟩)
    · have hjn : j < n := by omega
      have hx' := hx.trans (Ext.drew wr)
      obtain ⟨a, hpa, _⟩ := (h.ext hx').at (P := P) (t := T_int) (by kernel_rfl) hjn
      obtain ⟨b, hqb, _⟩ := (k.ext hx').at (P := P) (t := T_int) (by kernel_rfl) (show j < m by omega)
      subst hpa
      subst hqb
      have l1 : ∀ w', Ext wr.drew w' → Loads P T_int (a.add ((j : Int).toNat * 1)) (.int .i64 (zs[j]'(by omega))) w' := fun w' hw => by
        obtain ⟨a', ha, hl⟩ := ((h.ext hx').ext hw).at (P := P) (t := T_int) (by kernel_rfl) hjn
        cases ha
        simpa using hl
      have l2 : ∀ w', Ext wr.drew w' → Loads P T_int (b.add ((j : Int).toNat * 1)) (.int .i64 (ys[j]'(by omega))) w' := fun w' hw => by
        obtain ⟨a', ha, hl⟩ := ((k.ext hx').ext hw).at (P := P) (t := T_int) (by kernel_rfl) (show j < m by omega)
        cases ha
        simpa using hl
      refine ⟨⟨by omega, by omega⟩, _, l1, ⟨by omega, by omega⟩, _, l2, ifD (fun hne => ⟨?_, hx'⟩) (fun heq2 => ?_)⟩
      · have : zs ≠ ys := fun e => hne (by subst e; rfl)
        simp [this]
      · refine exW ⟨by omega, by omega⟩ ⟨⟨j + 1, by omega, by omega, hx', ?_⟩, by simp; omega⟩
        have e2 : zs[j]'(by omega) = ys[j]'(by omega) := by simpa using heq2
        rw [List.take_add_one, List.take_add_one, he, List.getElem?_eq_getElem (by omega), List.getElem?_eq_getElem (by omega), e2]
    · have hjn : j = n := by omega
      subst hjn
      rw [List.take_of_length_le (by omega), List.take_of_length_le (by omega)] at he
      simp [he]
end Go.Proofs.YtfemmmbkhhemaaaGreatDoor
