/-
  Parts of the proof of afterFee_holds: G5, GData, SxMem, Nm, SxData, SxOwn, DInts, DS, CBase, CInt.
  Conditions: none.
-/
import Derived.Laws.AppendOwn
import Derived.Laws.CopyRow
import Derived.Test.YtmajiilehdpdmaaGreatDoorAf3

namespace Go.Proofs.YtmajiilehdpdmaaGreatDoor
open Go Go.Proofs.YtmajiilehdpdmaaGreatDoor.Sx
set_option linter.unusedVariables false
set_option maxRecDepth 100000
def impl_natGcd (a_p : Option Addr) (a_n : Nat) (a_c : Nat) (b_p : Option Addr) (b_n : Nat) (b_c : Nat) (w : World) (R : Value → World → Prop) : Prop :=
 ∃ (Inv : Option Addr → Nat → Nat → Option Addr → Nat → Nat → World → Prop) (mu : Option Addr → Nat → Nat → Option Addr → Nat → Nat → World → Nat), Inv a_p a_n a_c b_p b_n b_c w ∧
 ∀ (junk : Fr) (wv : World) (a_p_1 : Option Addr) (a_n_1 : Nat) (a_c_1 : Nat) (b_p_1 : Option Addr) (b_n_1 : Nat) (b_c_1 : Nat), Inv a_p_1 a_n_1 a_c_1 b_p_1 b_n_1 b_c_1 wv →
 ((decide ((0 : Int) < ((b_n_1 : Nat) : Int))) = true →
 Calls P 130 ⟨[(.slice a_p_1 a_n_1 a_c_1), (.slice b_p_1 b_n_1 b_c_1)]⟩ wv fun e wv_1 =>
 ∃ (t13_p : Option Addr) (t13_n : Nat) (t13_c : Nat) (t13_p_1 : Option Addr) (t13_n_1 : Nat) (t13_c_1 : Nat), e = .returned (.tuple #[(.slice t13_p t13_n t13_c), (.slice t13_p_1 t13_n_1 t13_c_1)]) ∧
 Inv b_p_1 b_n_1 b_c_1 t13_p_1 t13_n_1 t13_c_1 wv_1 ∧ mu b_p_1 b_n_1 b_c_1 t13_p_1 t13_n_1 t13_c_1 wv_1 < mu a_p_1 a_n_1 a_c_1 b_p_1 b_n_1 b_c_1 wv) ∧
 ((decide ((0 : Int) < ((b_n_1 : Nat) : Int))) = false →
 Calls P 111 ⟨[(.slice a_p_1 a_n_1 a_c_1)]⟩ wv fun e_1 wv_2 =>
 ∃ (t19_p : Option Addr) (t19_n : Nat) (t19_c : Nat), e_1 = .returned (.slice t19_p t19_n t19_c) ∧
 R (.slice t19_p t19_n t19_c) wv_2)
theorem impl_natGcd_ret {a_p : Option Addr} {a_n : Nat} {a_c : Nat} {b_p : Option Addr} {b_n : Nat} {b_c : Nat} {w : World} {R : Value → World → Prop} (h : impl_natGcd a_p a_n a_c b_p b_n b_c w R) : Ret P 129 [(.slice a_p a_n a_c), (.slice b_p b_n b_c)] w R :=
  Ret.of_fsem Tryz.func129 rfl (Eq.mp (show _ = fsem P Tryz.f129 (fun k => cond (Nat.beq k 2) [(0, .one .slice), (1, .one .slice)] ([])) _ R w from by kernel_rfl) h)
def impl_natDiv (a_p : Option Addr) (a_n : Nat) (a_c : Nat) (b_p : Option Addr) (b_n : Nat) (b_c : Nat) (w : World) (R : Value → World → Prop) : Prop :=
 Calls P 63 ⟨[(.slice a_p a_n a_c), (.slice b_p b_n b_c)]⟩ w fun e wv =>
 ∃ (t18 : Int), e = .returned (.int .i64 t18) ∧
 ((decide ((t18 : Int) < 0)) = true →
 ∀ (r : Nat) (wv_1 : World), New wv (.cells ⟨[]⟩ 3 (0, 0)) r wv_1 →
 Calls P 111 ⟨[(.slice a_p a_n a_c)]⟩ wv_1 fun e_1 wv_2 =>
 ∃ (t22_p : Option Addr) (t22_n : Nat) (t22_c : Nat), e_1 = .returned (.slice t22_p t22_n t22_c) ∧
 R (.tuple #[(.slice (some ⟨r, 0, none⟩) 0 0), (.slice t22_p t22_n t22_c)]) wv_2) ∧
 ((decide ((t18 : Int) < 0)) = false →
 ((decide ((((b_n : Nat) : Int) : Int) = 1)) = true →
 (0 ≤ (0 : Int) ∧ (0 : Int) < (b_n : Nat)) ∧ ptrS b_p fun ad => ∃ (t30 : Int), Loads P 3 (ad.add (0 * 1)) (.int .i64 t30) wv ∧ Calls P 142 ⟨[(.slice a_p a_n a_c), (.int .i64 t30)]⟩ wv fun e_2 wv_3 =>
 ∃ (t31_p : Option Addr) (t31_n : Nat) (t31_c : Nat) (t31 : Int), e_2 = .returned (.tuple #[(.slice t31_p t31_n t31_c), (.int .i64 t31)]) ∧
 Calls P 64 ⟨[(.int .i64 t31)]⟩ wv_3 fun e_3 wv_4 =>
 ∃ (t36_p : Option Addr) (t36_n : Nat) (t36_c : Nat), e_3 = .returned (.slice t36_p t36_n t36_c) ∧
 R (.tuple #[(.slice t31_p t31_n t31_c), (.slice t36_p t36_n t36_c)]) wv_4) ∧
 ((decide ((((b_n : Nat) : Int) : Int) = 1)) = false →
 ∃ t40 : Int, t40 = IntKind.wrap .i64 (((b_n : Nat) : Int) - 1) ∧ (0 ≤ (t40 : Int) ∧ (t40 : Int) < (b_n : Nat)) ∧ ptrS b_p fun ad_1 => ∃ (t42 : Int), Loads P 3 (ad_1.add (t40.toNat * 1)) (.int .i64 t42) wv ∧ ∃ t43 : Int, t43 = IntKind.wrap .i64 (t42 + 1) ∧ (t43 : Int) ≠ 0 ∧ ∃ t44 : Int, t44 = IntKind.wrap .i64 (Int.tdiv 1000000000 t43) ∧ ∀ (r_1 : Nat) (wv_5 : World), New wv (.cells ⟨[(.int .i64 t44)]⟩ 3 (0, 0)) r_1 wv_5 →
 Calls P 102 ⟨[(.slice a_p a_n a_c), (.slice (some ⟨r_1, 0, none⟩) 1 1)]⟩ wv_5 fun e_4 wv_6 =>
 ∃ (t48_p : Option Addr) (t48_n : Nat) (t48_c : Nat), e_4 = .returned (.slice t48_p t48_n t48_c) ∧
 ∀ (r_2 : Nat) (wv_7 : World), New wv_6 (.cells ⟨[(.int .i64 t44)]⟩ 3 (0, 0)) r_2 wv_7 →
 Calls P 102 ⟨[(.slice b_p b_n b_c), (.slice (some ⟨r_2, 0, none⟩) 1 1)]⟩ wv_7 fun e_5 wv_8 =>
 ∃ (t52_p : Option Addr) (t52_n : Nat) (t52_c : Nat), e_5 = .returned (.slice t52_p t52_n t52_c) ∧
 ∃ (Inv : Option Addr → Nat → Nat → World → Prop) (mu : Option Addr → Nat → Nat → World → Nat), Inv t48_p t48_n t48_c wv_8 ∧
 ∀ (junk : Fr) (wv_9 : World) (u_p : Option Addr) (u_n : Nat) (u_c : Nat), Inv u_p u_n u_c wv_9 →
 ((decide ((((u_n : Nat) : Int) : Int) ≤ ((a_n : Nat) : Int))) = true →
 ∀ (r_3 : Nat) (wv_10 : World), New wv_9 (.cells ⟨[(.int .i64 0)]⟩ 3 (0, 0)) r_3 wv_10 →
 ∃ (t60_p : Option Addr) (t60_n : Nat) (t60_c : Nat) (wv_11 : World), Appends P [23, 23] [(.slice u_p u_n u_c), (.slice (some ⟨r_3, 0, none⟩) 1 1)] (.slice t60_p t60_n t60_c) wv_10 wv_11 ∧
 Inv t60_p t60_n t60_c wv_11 ∧ mu t60_p t60_n t60_c wv_11 < mu u_p u_n u_c wv_9) ∧
 ((decide ((((u_n : Nat) : Int) : Int) ≤ ((a_n : Nat) : Int))) = false →
 ∃ t66 : Int, t66 = IntKind.wrap .i64 (((u_n : Nat) : Int) - ((t52_n : Nat) : Int)) ∧ (0 ≤ (t66 : Int) ∧ (t66 : Int) ≤ t66 ∧ ((8 : Nat) : Int) * t66 ≤ 281474976710656) ∧
 ∀ (r_4 : Nat) (wv_12 : World), New wv_9 (.cells ⟨zeroRow (.int .i64 0) (t66.toNat * 1)⟩ 3 (0, 0)) r_4 wv_12 →
 ∃ t70 : Int, t70 = IntKind.wrap .i64 (((t66.toNat : Nat) : Int) - 1) ∧ ∃ (Inv_1 : Int → World → Prop) (mu_1 : Int → World → Nat), Inv_1 t70 wv_12 ∧
 ∀ (junk_1 : Fr) (wv_13 : World) (j : Int), Inv_1 j wv_13 →
 ((decide ((0 : Int) ≤ j)) = true →
 ∃ t81 : Int, t81 = IntKind.wrap .i64 (j + ((t52_n : Nat) : Int)) ∧ ∃ t82 : Int, t82 = IntKind.wrap .i64 (t81 + 1) ∧ (0 ≤ (t82 : Int) ∧ (t82 : Int) ≤ (u_c : Nat)) ∧ (0 ≤ (j : Int) ∧ (j : Int) ≤ (t82.toNat : Nat)) ∧ Calls P 143 ⟨[(.slice (sub u_p j.toNat u_c 1) (t82.toNat - j.toNat) (u_c - j.toNat)), (.slice t52_p t52_n t52_c)]⟩ wv_13 fun e_6 wv_14 =>
 ∃ (t85 : Int), e_6 = .returned (.int .i64 t85) ∧
 (0 ≤ (j : Int) ∧ (j : Int) < (t66.toNat : Nat)) ∧ ∃ wv_15, Stores P 3 ((⟨r_4, 0, none⟩ : Addr).add (j.toNat * 1)) (.int .i64 t85) wv_14 wv_15 ∧
 ∃ t74 : Int, t74 = IntKind.wrap .i64 (j - 1) ∧ Inv_1 t74 wv_15 ∧ mu_1 t74 wv_15 < mu_1 j wv_13) ∧
 ((decide ((0 : Int) ≤ j)) = false →
 Calls P 98 ⟨[(.slice u_p u_n u_c)]⟩ wv_13 fun e_7 wv_16 =>
 ∃ (t89_p : Option Addr) (t89_n : Nat) (t89_c : Nat), e_7 = .returned (.slice t89_p t89_n t89_c) ∧
 Calls P 142 ⟨[(.slice t89_p t89_n t89_c), (.int .i64 t44)]⟩ wv_16 fun e_8 wv_17 =>
 ∃ (t91_p : Option Addr) (t91_n : Nat) (t91_c : Nat) (t91 : Int), e_8 = .returned (.tuple #[(.slice t91_p t91_n t91_c), (.int .i64 t91)]) ∧
 Calls P 98 ⟨[(.slice (some ⟨r_4, 0, none⟩) t66.toNat t66.toNat)]⟩ wv_17 fun e_9 wv_18 =>
 ∃ (t95_p : Option Addr) (t95_n : Nat) (t95_c : Nat), e_9 = .returned (.slice t95_p t95_n t95_c) ∧
 R (.tuple #[(.slice t95_p t95_n t95_c), (.slice t91_p t91_n t91_c)]) wv_18))))
theorem impl_natDiv_ret {a_p : Option Addr} {a_n : Nat} {a_c : Nat} {b_p : Option Addr} {b_n : Nat} {b_c : Nat} {w : World} {R : Value → World → Prop} (h : impl_natDiv a_p a_n a_c b_p b_n b_c w R) : Ret P 130 [(.slice a_p a_n a_c), (.slice b_p b_n b_c)] w R :=
  Ret.of_fsem Tryz.func130 rfl (Eq.mp (show _ = fsem P Tryz.f130 (fun k => cond (Nat.beq k 10) [(9, .one .slice)] (cond (Nat.beq k 15) [(13, .one (.int .i64))] ([]))) _ R w from by kernel_rfl) h)
def impl_isScale (scale : Int) (w : World) (R : Value → World → Prop) : Prop :=
 ((decide ((0 : Int) ≤ scale)) = true →
 R (.bool (decide ((scale : Int) ≤ 30))) w) ∧
 ((decide ((0 : Int) ≤ scale)) = false →
 R (.bool false) w)
theorem impl_isScale_ret {scale : Int} {w : World} {R : Value → World → Prop} (h : impl_isScale scale w R) : Ret P 131 [(.int .i64 scale)] w R :=
  Ret.of_fsem Tryz.func131 rfl (Eq.mp (show _ = fsem P Tryz.f131 (fun k => []) _ R w from by kernel_rfl) h)
def impl_isMode (m : Int) (w : World) (R : Value → World → Prop) : Prop :=
 ((decide ((0 : Int) ≤ m)) = true →
 R (.bool (decide ((m : Int) ≤ 6))) w) ∧
 ((decide ((0 : Int) ≤ m)) = false →
 R (.bool false) w)
theorem impl_isMode_ret {m : Int} {w : World} {R : Value → World → Prop} (h : impl_isMode m w R) : Ret P 132 [(.int .i64 m)] w R :=
  Ret.of_fsem Tryz.func132 rfl (Eq.mp (show _ = fsem P Tryz.f132 (fun k => []) _ R w from by kernel_rfl) h)
def impl_roundQuotient_j0 (r : Nat) (r_1 : Nat) (q_p : Option Addr) (q_n : Nat) (q_c : Nat) (W : World) (R : Value → World → Prop) : Prop :=
 ∃ (t40 : Bool), Loads P 4 ((⟨r, 0, none⟩ : Addr).add 0) (.bool t40) W ∧ Calls P 109 ⟨[(.bool t40), (.slice q_p q_n q_c)]⟩ W fun e_7 wv_11 =>
 ∃ (t420 : Bool) (t421_p : Option Addr) (t421_n : Nat) (t421_c : Nat), e_7 = .returned (.agg #[(.bool t420), (.slice t421_p t421_n t421_c)]) ∧
 ∃ wv_12, Stores P 30 ⟨r_1, 0, none⟩ (.agg #[(.bool t420), (.slice t421_p t421_n t421_c)]) wv_11 wv_12 ∧
 ∃ (r0 : Bool) (r1_p : Option Addr) (r1_n : Nat) (r1_c : Nat), Loads P 30 ⟨r_1, 0, none⟩ (.agg #[(.bool r0), (.slice r1_p r1_n r1_c)]) wv_12 ∧ R (.agg #[(.bool r0), (.slice r1_p r1_n r1_c)]) wv_12
def impl_roundQuotient (num0 : Bool) (num1_p : Option Addr) (num1_n : Nat) (num1_c : Nat) (den_p : Option Addr) (den_n : Nat) (den_c : Nat) (m : Int) (w : World) (R : Value → World → Prop) : Prop :=
 ∀ (r : Nat) (wv : World), New w (.cells ⟨[(.bool num0), (.slice num1_p num1_n num1_c)]⟩ 30 (0, 0)) r wv →
 ∀ (r_1 : Nat) (wv_1 : World), New wv (.cells ⟨[(.bool false), (.slice none 0 0)]⟩ 30 (0, 0)) r_1 wv_1 →
 ∃ (t11_p : Option Addr) (t11_n : Nat) (t11_c : Nat), Loads P 23 ((⟨r, 0, none⟩ : Addr).add 1) (.slice t11_p t11_n t11_c) wv_1 ∧ Calls P 130 ⟨[(.slice t11_p t11_n t11_c), (.slice den_p den_n den_c)]⟩ wv_1 fun e wv_2 =>
 ∃ (t13_p : Option Addr) (t13_n : Nat) (t13_c : Nat) (t13_p_1 : Option Addr) (t13_n_1 : Nat) (t13_c_1 : Nat), e = .returned (.tuple #[(.slice t13_p t13_n t13_c), (.slice t13_p_1 t13_n_1 t13_c_1)]) ∧
 ((decide ((0 : Int) < ((t13_n_1 : Nat) : Int))) = true →
 Calls P 144 ⟨[]⟩ wv_2.drew fun e_1 wv_3 =>
 ∃ (t200 : ByteArray) (t201 : Value) (t202 : ByteArray) (t203 : Value) (t204 : ByteArray) (t205 : Value) (t206 : ByteArray) (t207 : Value) (t208 : ByteArray) (t209 : Value) (t2010 : ByteArray) (t2011 : Value) (t2012 : ByteArray) (t2013 : Value), e_1 = .returned (.agg #[(.string t200), t201, (.string t202), t203, (.string t204), t205, (.string t206), t207, (.string t208), t209, (.string t2010), t2011, (.string t2012), t2013]) ∧
 Ext wv_2.drew wv_3 ∧ indexS P 138 (.agg #[(.string t200), t201, (.string t202), t203, (.string t204), t205, (.string t206), t207, (.string t208), t209, (.string t2010), t2011, (.string t2012), t2013]) (.int .i64 m) fun (el : Value) => fieldS P 137 el 1 fun (fl : Value) => ∃ (t25 : Bool), (∀ wv_4, Ext wv_2.drew wv_4 → Loads P 4 ((⟨r, 0, none⟩ : Addr).add 0) (.bool t25) wv_4) ∧ Calls P 110 ⟨[(.slice t13_p_1 t13_n_1 t13_c_1), (.slice t13_p_1 t13_n_1 t13_c_1)]⟩ wv_3 fun e_2 wv_5 =>
 ∃ (t28_p : Option Addr) (t28_n : Nat) (t28_c : Nat), e_2 = .returned (.slice t28_p t28_n t28_c) ∧
 Ext wv_3 wv_5 ∧ Calls P 63 ⟨[(.slice t28_p t28_n t28_c), (.slice den_p den_n den_c)]⟩ wv_5 fun e_3 wv_6 =>
 ∃ (t30 : Int), e_3 = .returned (.int .i64 t30) ∧
 Ext wv_5 wv_6 ∧ Calls P 145 ⟨[(.slice t13_p t13_n t13_c)]⟩ wv_6 fun e_4 wv_7 =>
 ∃ (t32 : Bool), e_4 = .returned (.bool t32) ∧
 Ext wv_6 wv_7 ∧ CallW P fl [(.bool t25), (.int .i64 t30), (.bool (!t32))] wv_7 fun e_5 wv_8 =>
 ∃ (t34 : Bool), e_5 = .returned (.bool t34) ∧
 (t34 = true →
 ∀ (r_2 : Nat) (wv_9 : World), New wv_8 (.cells ⟨[(.int .i64 1)]⟩ 3 (0, 0)) r_2 wv_9 →
 Calls P 110 ⟨[(.slice t13_p t13_n t13_c), (.slice (some ⟨r_2, 0, none⟩) 1 1)]⟩ wv_9 fun e_6 wv_10 =>
 ∃ (t38_p : Option Addr) (t38_n : Nat) (t38_c : Nat), e_6 = .returned (.slice t38_p t38_n t38_c) ∧
 impl_roundQuotient_j0 r r_1 t38_p t38_n t38_c wv_10 R) ∧
 (t34 = false →
 impl_roundQuotient_j0 r r_1 t13_p t13_n t13_c wv_8 R)) ∧
 ((decide ((0 : Int) < ((t13_n_1 : Nat) : Int))) = false →
 (false = true →
 ∀ (r_3 : Nat) (wv_13 : World), New wv_2.drew (.cells ⟨[(.int .i64 1)]⟩ 3 (0, 0)) r_3 wv_13 →
 Calls P 110 ⟨[(.slice t13_p t13_n t13_c), (.slice (some ⟨r_3, 0, none⟩) 1 1)]⟩ wv_13 fun e_8 wv_14 =>
 ∃ (t38_p_1 : Option Addr) (t38_n_1 : Nat) (t38_c_1 : Nat), e_8 = .returned (.slice t38_p_1 t38_n_1 t38_c_1) ∧
 impl_roundQuotient_j0 r r_1 t38_p_1 t38_n_1 t38_c_1 wv_14 R) ∧
 (false = false →
 impl_roundQuotient_j0 r r_1 t13_p t13_n t13_c wv_2.drew R))
theorem impl_roundQuotient_ret {num0 : Bool} {num1_p : Option Addr} {num1_n : Nat} {num1_c : Nat} {den_p : Option Addr} {den_n : Nat} {den_c : Nat} {m : Int} {w : World} {R : Value → World → Prop} (h : impl_roundQuotient num0 num1_p num1_n num1_c den_p den_n den_c m w R) : Ret P 133 [(.agg #[(.bool num0), (.slice num1_p num1_n num1_c)]), (.slice den_p den_n den_c), (.int .i64 m)] w R :=
  Ret.of_fsem Tryz.func133 rfl (Eq.mp (show _ = fsem P Tryz.f133 (fun k => []) _ R w from by kernel_rfl) h)
def impl_RatMake_j0 (r : Nat) (r_1 : Nat) (r_2 : Nat) (W : World) (R : Value → World → Prop) : Prop :=
 ∃ (t18 : Bool), (∀ wv_5, Ext W.drew wv_5 → Loads P 4 ((⟨r, 0, none⟩ : Addr).add 0) (.bool t18) wv_5) ∧ ∃ (t20 : Bool), (∀ wv_6, Ext W.drew wv_6 → Loads P 4 ((⟨r_1, 0, none⟩ : Addr).add 0) (.bool t20) wv_6) ∧ ∃ (t23_p : Option Addr) (t23_n : Nat) (t23_c : Nat), (∀ wv_7, Ext W.drew wv_7 → Loads P 23 ((⟨r, 0, none⟩ : Addr).add 1) (.slice t23_p t23_n t23_c) wv_7) ∧ Calls P 109 ⟨[(.bool (!(t18 == t20))), (.slice t23_p t23_n t23_c)]⟩ W.drew fun e_1 wv_8 =>
 ∃ (t240 : Bool) (t241_p : Option Addr) (t241_n : Nat) (t241_c : Nat), e_1 = .returned (.agg #[(.bool t240), (.slice t241_p t241_n t241_c)]) ∧
 Ext W.drew wv_8 ∧ ∃ (t26_p : Option Addr) (t26_n : Nat) (t26_c : Nat), (∀ wv_9, Ext W.drew wv_9 → Loads P 23 ((⟨r_1, 0, none⟩ : Addr).add 1) (.slice t26_p t26_n t26_c) wv_9) ∧ Calls P 100 ⟨[(.agg #[(.bool t240), (.slice t241_p t241_n t241_c)]), (.slice t26_p t26_n t26_c)]⟩ wv_8 fun e_2 wv_10 =>
 ∃ (t270 : Bool) (t271_p : Option Addr) (t271_n : Nat) (t271_c : Nat) (t272_p : Option Addr) (t272_n : Nat) (t272_c : Nat) (t27 : Bool), e_2 = .returned (.tuple #[(.agg #[(.bool t270), (.slice t271_p t271_n t271_c), (.slice t272_p t272_n t272_c)]), (.bool t27)]) ∧
 ∃ wv_11, Stores P 34 ⟨r_2, 0, none⟩ (.agg #[(.bool t270), (.slice t271_p t271_n t271_c), (.slice t272_p t272_n t272_c)]) wv_10 wv_11 ∧
 ∃ (r0_1 : Bool) (r1_p_1 : Option Addr) (r1_n_1 : Nat) (r1_c_1 : Nat) (r2_p_1 : Option Addr) (r2_n_1 : Nat) (r2_c_1 : Nat), Loads P 34 ⟨r_2, 0, none⟩ (.agg #[(.bool r0_1), (.slice r1_p_1 r1_n_1 r1_c_1), (.slice r2_p_1 r2_n_1 r2_c_1)]) wv_11 ∧ R (.tuple #[(.agg #[(.bool r0_1), (.slice r1_p_1 r1_n_1 r1_c_1), (.slice r2_p_1 r2_n_1 r2_c_1)]), (.bool t27)]) wv_11
def impl_RatMake (num0 : Bool) (num1_p : Option Addr) (num1_n : Nat) (num1_c : Nat) (den0 : Bool) (den1_p : Option Addr) (den1_n : Nat) (den1_c : Nat) (w : World) (R : Value → World → Prop) : Prop :=
 ∀ (r : Nat) (wv : World), New w (.cells ⟨[(.bool num0), (.slice num1_p num1_n num1_c)]⟩ 30 (0, 0)) r wv →
 ∀ (r_1 : Nat) (wv_1 : World), New wv (.cells ⟨[(.bool den0), (.slice den1_p den1_n den1_c)]⟩ 30 (0, 0)) r_1 wv_1 →
 ∀ (r_2 : Nat) (wv_2 : World), New wv_1 (.cells ⟨[(.bool false), (.slice none 0 0), (.slice none 0 0)]⟩ 34 (0, 0)) r_2 wv_2 →
 ∃ (t60 : Bool) (t61_p : Option Addr) (t61_n : Nat) (t61_c : Nat), Loads P 30 ⟨r, 0, none⟩ (.agg #[(.bool t60), (.slice t61_p t61_n t61_c)]) wv_2 ∧ ∃ (t70 : Bool) (t71_p : Option Addr) (t71_n : Nat) (t71_c : Nat), Loads P 30 ⟨r_1, 0, none⟩ (.agg #[(.bool t70), (.slice t71_p t71_n t71_c)]) wv_2 ∧ Calls P 146 ⟨[(.agg #[(.bool t60), (.slice t61_p t61_n t61_c)]), (.agg #[(.bool t70), (.slice t71_p t71_n t71_c)])]⟩ wv_2 fun e wv_3 =>
 ∃ (t8 : Bool), e = .returned (.bool t8) ∧
 ((!t8) = true →
 (true = true →
 ∃ wv_4, Stores P 34 ⟨r_2, 0, none⟩ (.agg #[(.bool false), (.slice none 0 0), (.slice none 0 0)]) wv_3 wv_4 ∧
 ∃ (r0 : Bool) (r1_p : Option Addr) (r1_n : Nat) (r1_c : Nat) (r2_p : Option Addr) (r2_n : Nat) (r2_c : Nat), Loads P 34 ⟨r_2, 0, none⟩ (.agg #[(.bool r0), (.slice r1_p r1_n r1_c), (.slice r2_p r2_n r2_c)]) wv_4 ∧ R (.tuple #[(.agg #[(.bool r0), (.slice r1_p r1_n r1_c), (.slice r2_p r2_n r2_c)]), (.bool false)]) wv_4) ∧
 (true = false →
 impl_RatMake_j0 r r_1 r_2 wv_3 R)) ∧
 ((!t8) = false →
 ∃ (t12_p : Option Addr) (t12_n : Nat) (t12_c : Nat), Loads P 23 ((⟨r_1, 0, none⟩ : Addr).add 1) (.slice t12_p t12_n t12_c) wv_3 ∧ ((decide ((((t12_n : Nat) : Int) : Int) = 0)) = true →
 ∃ wv_12, Stores P 34 ⟨r_2, 0, none⟩ (.agg #[(.bool false), (.slice none 0 0), (.slice none 0 0)]) wv_3 wv_12 ∧
 ∃ (r0_2 : Bool) (r1_p_2 : Option Addr) (r1_n_2 : Nat) (r1_c_2 : Nat) (r2_p_2 : Option Addr) (r2_n_2 : Nat) (r2_c_2 : Nat), Loads P 34 ⟨r_2, 0, none⟩ (.agg #[(.bool r0_2), (.slice r1_p_2 r1_n_2 r1_c_2), (.slice r2_p_2 r2_n_2 r2_c_2)]) wv_12 ∧ R (.tuple #[(.agg #[(.bool r0_2), (.slice r1_p_2 r1_n_2 r1_c_2), (.slice r2_p_2 r2_n_2 r2_c_2)]), (.bool false)]) wv_12) ∧
 ((decide ((((t12_n : Nat) : Int) : Int) = 0)) = false →
 impl_RatMake_j0 r r_1 r_2 wv_3 R))
theorem impl_RatMake_ret {num0 : Bool} {num1_p : Option Addr} {num1_n : Nat} {num1_c : Nat} {den0 : Bool} {den1_p : Option Addr} {den1_n : Nat} {den1_c : Nat} {w : World} {R : Value → World → Prop} (h : impl_RatMake num0 num1_p num1_n num1_c den0 den1_p den1_n den1_c w R) : Ret P 134 [(.agg #[(.bool num0), (.slice num1_p num1_n num1_c)]), (.agg #[(.bool den0), (.slice den1_p den1_n den1_c)])] w R :=
  Ret.of_fsem Tryz.func134 rfl (Eq.mp (show _ = fsem P Tryz.f134 (fun k => []) _ R w from by kernel_rfl) h)
def impl_ratNeg (r0 : Bool) (r1_p : Option Addr) (r1_n : Nat) (r1_c : Nat) (r2_p : Option Addr) (r2_n : Nat) (r2_c : Nat) (w : World) (R : Value → World → Prop) : Prop :=
 ∀ (r : Nat) (wv : World), New w (.cells ⟨[(.bool r0), (.slice r1_p r1_n r1_c), (.slice r2_p r2_n r2_c)]⟩ 34 (0, 0)) r wv →
 ∀ (r_1 : Nat) (wv_1 : World), New wv (.cells ⟨[(.bool false), (.slice none 0 0), (.slice none 0 0)]⟩ 34 (0, 0)) r_1 wv_1 →
 ∃ (t40 : Bool) (t41_p : Option Addr) (t41_n : Nat) (t41_c : Nat), (∀ wv_2, Ext wv_1.drew wv_2 → Loads P 30 ((⟨r, 0, none⟩ : Addr).add 0) (.agg #[(.bool t40), (.slice t41_p t41_n t41_c)]) wv_2) ∧ Calls P 75 ⟨[(.agg #[(.bool t40), (.slice t41_p t41_n t41_c)])]⟩ wv_1.drew fun e wv_3 =>
 ∃ (t50 : Bool) (t51_p : Option Addr) (t51_n : Nat) (t51_c : Nat), e = .returned (.agg #[(.bool t50), (.slice t51_p t51_n t51_c)]) ∧
 Ext wv_1.drew wv_3 ∧ ∃ (t7_p : Option Addr) (t7_n : Nat) (t7_c : Nat), (∀ wv_4, Ext wv_1.drew wv_4 → Loads P 23 ((⟨r, 0, none⟩ : Addr).add 2) (.slice t7_p t7_n t7_c) wv_4) ∧ Calls P 111 ⟨[(.slice t7_p t7_n t7_c)]⟩ wv_3 fun e_1 wv_5 =>
 ∃ (t8_p : Option Addr) (t8_n : Nat) (t8_c : Nat), e_1 = .returned (.slice t8_p t8_n t8_c) ∧
 ∃ wv_6, Stores P 34 ⟨r_1, 0, none⟩ (.agg #[(.bool t50), (.slice t51_p t51_n t51_c), (.slice t8_p t8_n t8_c)]) wv_5 wv_6 ∧
 ∃ (r0_1 : Bool) (r1_p_1 : Option Addr) (r1_n_1 : Nat) (r1_c_1 : Nat) (r2_p_1 : Option Addr) (r2_n_1 : Nat) (r2_c_1 : Nat), Loads P 34 ⟨r_1, 0, none⟩ (.agg #[(.bool r0_1), (.slice r1_p_1 r1_n_1 r1_c_1), (.slice r2_p_1 r2_n_1 r2_c_1)]) wv_6 ∧ R (.agg #[(.bool r0_1), (.slice r1_p_1 r1_n_1 r1_c_1), (.slice r2_p_1 r2_n_1 r2_c_1)]) wv_6
theorem impl_ratNeg_ret {r0 : Bool} {r1_p : Option Addr} {r1_n : Nat} {r1_c : Nat} {r2_p : Option Addr} {r2_n : Nat} {r2_c : Nat} {w : World} {R : Value → World → Prop} (h : impl_ratNeg r0 r1_p r1_n r1_c r2_p r2_n r2_c w R) : Ret P 135 [(.agg #[(.bool r0), (.slice r1_p r1_n r1_c), (.slice r2_p r2_n r2_c)])] w R :=
  Ret.of_fsem Tryz.func135 rfl (Eq.mp (show _ = fsem P Tryz.f135 (fun k => []) _ R w from by kernel_rfl) h)
def spec_l07Both_j0 (r : Nat) (r_1 : Nat) (r_2 : Nat) (r_3 : Nat) (scale : Int) (W : World) (R : Value → World → Prop) : Prop :=
 ∃ (t170 : Bool) (t171_p : Option Addr) (t171_n : Nat) (t171_c : Nat), (∀ wv_4, Ext W.drew wv_4 → Loads P 30 ((⟨r, 0, none⟩ : Addr).add 0) (.agg #[(.bool t170), (.slice t171_p t171_n t171_c)]) wv_4) ∧ ∃ (t20 : Int), (∀ wv_5, Ext W.drew wv_5 → Loads P 3 ((⟨r, 0, none⟩ : Addr).add 2) (.int .i64 t20) wv_5) ∧ ∃ t21 : Int, t21 = IntKind.wrap .i64 (scale - t20) ∧ Calls P 89 ⟨[(.int .i64 t21)]⟩ W.drew fun e wv_6 =>
 ∃ (t220 : Bool) (t221_p : Option Addr) (t221_n : Nat) (t221_c : Nat), e = .returned (.agg #[(.bool t220), (.slice t221_p t221_n t221_c)]) ∧
 Ext W.drew wv_6 ∧ Calls P 147 ⟨[(.agg #[(.bool t170), (.slice t171_p t171_n t171_c)]), (.agg #[(.bool t220), (.slice t221_p t221_n t221_c)])]⟩ wv_6 fun e_1 wv_7 =>
 ∃ (t230 : Bool) (t231_p : Option Addr) (t231_n : Nat) (t231_c : Nat), e_1 = .returned (.agg #[(.bool t230), (.slice t231_p t231_n t231_c)]) ∧
 Ext wv_6 wv_7 ∧ ∃ (t250 : Bool) (t251_p : Option Addr) (t251_n : Nat) (t251_c : Nat), (∀ wv_8, Ext W.drew wv_8 → Loads P 30 ((⟨r_1, 0, none⟩ : Addr).add 0) (.agg #[(.bool t250), (.slice t251_p t251_n t251_c)]) wv_8) ∧ ∃ (t28 : Int), (∀ wv_9, Ext W.drew wv_9 → Loads P 3 ((⟨r_1, 0, none⟩ : Addr).add 2) (.int .i64 t28) wv_9) ∧ ∃ t29 : Int, t29 = IntKind.wrap .i64 (scale - t28) ∧ Calls P 89 ⟨[(.int .i64 t29)]⟩ wv_7 fun e_2 wv_10 =>
 ∃ (t300 : Bool) (t301_p : Option Addr) (t301_n : Nat) (t301_c : Nat), e_2 = .returned (.agg #[(.bool t300), (.slice t301_p t301_n t301_c)]) ∧
 Ext wv_7 wv_10 ∧ Calls P 147 ⟨[(.agg #[(.bool t250), (.slice t251_p t251_n t251_c)]), (.agg #[(.bool t300), (.slice t301_p t301_n t301_c)])]⟩ wv_10 fun e_3 wv_11 =>
 ∃ (t310 : Bool) (t311_p : Option Addr) (t311_n : Nat) (t311_c : Nat), e_3 = .returned (.agg #[(.bool t310), (.slice t311_p t311_n t311_c)]) ∧
 ∃ wv_12, Stores P 30 ⟨r_2, 0, none⟩ (.agg #[(.bool t230), (.slice t231_p t231_n t231_c)]) wv_11 wv_12 ∧
 ∃ wv_13, Stores P 30 ⟨r_3, 0, none⟩ (.agg #[(.bool t310), (.slice t311_p t311_n t311_c)]) wv_12 wv_13 ∧
 ∃ (r0 : Bool) (r1_p : Option Addr) (r1_n : Nat) (r1_c : Nat), Loads P 30 ⟨r_2, 0, none⟩ (.agg #[(.bool r0), (.slice r1_p r1_n r1_c)]) wv_13 ∧ ∃ (r0_1 : Bool) (r1_p_1 : Option Addr) (r1_n_1 : Nat) (r1_c_1 : Nat), Loads P 30 ⟨r_3, 0, none⟩ (.agg #[(.bool r0_1), (.slice r1_p_1 r1_n_1 r1_c_1)]) wv_13 ∧ R (.tuple #[(.agg #[(.bool r0), (.slice r1_p r1_n r1_c)]), (.agg #[(.bool r0_1), (.slice r1_p_1 r1_n_1 r1_c_1)]), (.int .i64 scale)]) wv_13
def spec_l07Both (d0 : Bool) (d1_p : Option Addr) (d1_n : Nat) (d1_c : Nat) (d2 : Int) (e0 : Bool) (e1_p : Option Addr) (e1_n : Nat) (e1_c : Nat) (e2 : Int) (w : World) (R : Value → World → Prop) : Prop :=
 ∀ (r : Nat) (wv : World), New w (.cells ⟨[(.bool d0), (.slice d1_p d1_n d1_c), (.int .i64 d2)]⟩ 60 (0, 0)) r wv →
 ∀ (r_1 : Nat) (wv_1 : World), New wv (.cells ⟨[(.bool e0), (.slice e1_p e1_n e1_c), (.int .i64 e2)]⟩ 60 (0, 0)) r_1 wv_1 →
 ∀ (r_2 : Nat) (wv_2 : World), New wv_1 (.cells ⟨[(.bool false), (.slice none 0 0)]⟩ 30 (0, 0)) r_2 wv_2 →
 ∀ (r_3 : Nat) (wv_3 : World), New wv_2 (.cells ⟨[(.bool false), (.slice none 0 0)]⟩ 30 (0, 0)) r_3 wv_3 →
 ∃ (t9 : Int), Loads P 3 ((⟨r, 0, none⟩ : Addr).add 2) (.int .i64 t9) wv_3 ∧ ∃ (t11 : Int), Loads P 3 ((⟨r_1, 0, none⟩ : Addr).add 2) (.int .i64 t11) wv_3 ∧ ((decide ((t9 : Int) < t11)) = true →
 ∃ (t15 : Int), Loads P 3 ((⟨r_1, 0, none⟩ : Addr).add 2) (.int .i64 t15) wv_3 ∧ spec_l07Both_j0 r r_1 r_2 r_3 t15 wv_3 R) ∧
 ((decide ((t9 : Int) < t11)) = false →
 spec_l07Both_j0 r r_1 r_2 r_3 t9 wv_3 R)
theorem spec_l07Both_ret {d0 : Bool} {d1_p : Option Addr} {d1_n : Nat} {d1_c : Nat} {d2 : Int} {e0 : Bool} {e1_p : Option Addr} {e1_n : Nat} {e1_c : Nat} {e2 : Int} {w : World} {R : Value → World → Prop} (h : spec_l07Both d0 d1_p d1_n d1_c d2 e0 e1_p e1_n e1_c e2 w R) : Ret P 136 [(.agg #[(.bool d0), (.slice d1_p d1_n d1_c), (.int .i64 d2)]), (.agg #[(.bool e0), (.slice e1_p e1_n e1_c), (.int .i64 e2)])] w R :=
  Ret.of_fsem Tryz.func136 rfl (Eq.mp (show _ = fsem P Tryz.f136 (fun k => []) _ R w from by kernel_rfl) h)
def spec_l03Small (a_p : Option Addr) (a_n : Nat) (a_c : Nat) (d : Int) (w : World) (R : Value → World → Prop) : Prop :=
 (0 ≤ (((a_n : Nat) : Int) : Int) ∧ (((a_n : Nat) : Int) : Int) ≤ ((a_n : Nat) : Int) ∧ ((8 : Nat) : Int) * ((a_n : Nat) : Int) ≤ 281474976710656) ∧
 ∀ (r : Nat) (wv : World), New w (.cells ⟨zeroRow (.int .i64 0) (a_n * 1)⟩ 3 (0, 0)) r wv →
 ∃ t15 : Int, t15 = IntKind.wrap .i64 (((a_n : Nat) : Int) - 1) ∧ ∃ (Inv : Int → Int → World → Prop) (mu : Int → Int → World → Nat), Inv 0 t15 wv ∧
 ∀ (junk : Fr) (wv_1 : World) (rest : Int) (i : Int), Inv rest i wv_1 →
 ((decide ((0 : Int) ≤ i)) = true →
 ∃ t21 : Int, t21 = IntKind.wrap .i64 (rest * 1000000000) ∧ (0 ≤ (i : Int) ∧ (i : Int) < (a_n : Nat)) ∧ ptrS a_p fun ad => ∃ (t25 : Int), Loads P 3 (ad.add (i.toNat * 1)) (.int .i64 t25) wv_1 ∧ ∃ t26 : Int, t26 = IntKind.wrap .i64 (t21 + t25) ∧ (d : Int) ≠ 0 ∧ ∃ t31 : Int, t31 = IntKind.wrap .i64 (Int.tdiv t26 d) ∧ (0 ≤ (i : Int) ∧ (i : Int) < (a_n : Nat)) ∧ ∃ wv_2, Stores P 3 ((⟨r, 0, none⟩ : Addr).add (i.toNat * 1)) (.int .i64 t31) wv_1 wv_2 ∧
 (d : Int) ≠ 0 ∧ ∃ t35 : Int, t35 = Int.tmod t26 d ∧ ∃ t19 : Int, t19 = IntKind.wrap .i64 (i - 1) ∧ Inv t35 t19 wv_2 ∧ mu t35 t19 wv_2 < mu rest i wv_1) ∧
 ((decide ((0 : Int) ≤ i)) = false →
 Calls P 118 ⟨[(.slice (some ⟨r, 0, none⟩) a_n a_n)]⟩ wv_1 fun e wv_3 =>
 ∃ (t37_p : Option Addr) (t37_n : Nat) (t37_c : Nat), e = .returned (.slice t37_p t37_n t37_c) ∧
 R (.tuple #[(.slice t37_p t37_n t37_c), (.int .i64 rest)]) wv_3)
theorem spec_l03Small_ret {a_p : Option Addr} {a_n : Nat} {a_c : Nat} {d : Int} {w : World} {R : Value → World → Prop} (h : spec_l03Small a_p a_n a_c d w R) : Ret P 137 [(.slice a_p a_n a_c), (.int .i64 d)] w R :=
  Ret.of_fsem Tryz.func137 rfl (Eq.mp (show _ = fsem P Tryz.f137 (fun k => cond (Nat.beq k 5) [(7, .one (.int .i64)), (8, .one (.int .i64))] ([])) _ R w from by kernel_rfl) h)
def spec_l03Digit (r_p : Option Addr) (r_n : Nat) (r_c : Nat) (b_p : Option Addr) (b_n : Nat) (b_c : Nat) (w : World) (R : Value → World → Prop) : Prop :=
 ∃ (Inv : Int → Int → World → Prop) (mu : Int → Int → World → Nat), Inv 0 999999999 w ∧
 ∀ (junk : Fr) (wv : World) (lo : Int) (hi : Int), Inv lo hi wv →
 ((decide ((lo : Int) < hi)) = true →
 ∃ t13 : Int, t13 = IntKind.wrap .i64 (lo + hi) ∧ ∃ t14 : Int, t14 = IntKind.wrap .i64 (t13 + 1) ∧ (2 : Int) ≠ 0 ∧ ∃ t15 : Int, t15 = IntKind.wrap .i64 (Int.tdiv t14 2) ∧ Calls P 84 ⟨[(.int .i64 t15)]⟩ wv fun e wv_1 =>
 ∃ (t18_p : Option Addr) (t18_n : Nat) (t18_c : Nat), e = .returned (.slice t18_p t18_n t18_c) ∧
 Calls P 87 ⟨[(.slice b_p b_n b_c), (.slice t18_p t18_n t18_c)]⟩ wv_1 fun e_1 wv_2 =>
 ∃ (t19_p : Option Addr) (t19_n : Nat) (t19_c : Nat), e_1 = .returned (.slice t19_p t19_n t19_c) ∧
 Calls P 114 ⟨[(.slice t19_p t19_n t19_c), (.slice r_p r_n r_c)]⟩ wv_2 fun e_2 wv_3 =>
 ∃ (t21 : Int), e_2 = .returned (.int .i64 t21) ∧
 ((decide ((t21 : Int) ≤ 0)) = true →
 Inv t15 hi wv_3 ∧ mu t15 hi wv_3 < mu lo hi wv) ∧
 ((decide ((t21 : Int) ≤ 0)) = false →
 ∃ t25 : Int, t25 = IntKind.wrap .i64 (t15 - 1) ∧ Inv lo t25 wv_3 ∧ mu lo t25 wv_3 < mu lo hi wv)) ∧
 ((decide ((lo : Int) < hi)) = false →
 R (.int .i64 lo) wv)
theorem spec_l03Digit_ret {r_p : Option Addr} {r_n : Nat} {r_c : Nat} {b_p : Option Addr} {b_n : Nat} {b_c : Nat} {w : World} {R : Value → World → Prop} (h : spec_l03Digit r_p r_n r_c b_p b_n b_c w R) : Ret P 138 [(.slice r_p r_n r_c), (.slice b_p b_n b_c)] w R :=
  Ret.of_fsem Tryz.func138 rfl (Eq.mp (show _ = fsem P Tryz.f138 (fun k => cond (Nat.beq k 4) [(5, .one (.int .i64)), (6, .one (.int .i64))] ([])) _ R w from by kernel_rfl) h)
def spec_l06Away (neg : Bool) (q_p : Option Addr) (q_n : Nat) (q_c : Nat) (rest_p : Option Addr) (rest_n : Nat) (rest_c : Nat) (den_p : Option Addr) (den_n : Nat) (den_c : Nat) (m : Int) (w : World) (R : Value → World → Prop) : Prop :=
 Calls P 115 ⟨[(.slice rest_p rest_n rest_c), (.slice rest_p rest_n rest_c)]⟩ w fun e wv =>
 ∃ (t14_p : Option Addr) (t14_n : Nat) (t14_c : Nat), e = .returned (.slice t14_p t14_n t14_c) ∧
 Calls P 114 ⟨[(.slice t14_p t14_n t14_c), (.slice den_p den_n den_c)]⟩ wv fun e_1 wv_1 =>
 ∃ (t16 : Int), e_1 = .returned (.int .i64 t16) ∧
 ((decide ((m : Int) = 0)) = true →
 R (.bool false) wv_1) ∧
 ((decide ((m : Int) = 0)) = false →
 ((decide ((m : Int) = 1)) = true →
 R (.bool true) wv_1) ∧
 ((decide ((m : Int) = 1)) = false →
 ((decide ((m : Int) = 2)) = true →
 R (.bool neg) wv_1) ∧
 ((decide ((m : Int) = 2)) = false →
 ((decide ((m : Int) = 3)) = true →
 R (.bool (!neg)) wv_1) ∧
 ((decide ((m : Int) = 3)) = false →
 ((decide ((m : Int) = 4)) = true →
 R (.bool (decide ((0 : Int) < t16))) wv_1) ∧
 ((decide ((m : Int) = 4)) = false →
 ((decide ((m : Int) = 5)) = true →
 R (.bool (decide ((0 : Int) ≤ t16))) wv_1) ∧
 ((decide ((m : Int) = 5)) = false →
 ((decide ((0 : Int) < t16)) = true →
 R (.bool true) wv_1) ∧
 ((decide ((0 : Int) < t16)) = false →
 ((decide ((t16 : Int) = 0)) = true →
 Calls P 148 ⟨[(.slice q_p q_n q_c)]⟩ wv_1 fun e_2 wv_2 =>
 ∃ (t44 : Bool), e_2 = .returned (.bool t44) ∧
 R (.bool (!t44)) wv_2) ∧
 ((decide ((t16 : Int) = 0)) = false →
 R (.bool false) wv_1))))))))
theorem spec_l06Away_ret {neg : Bool} {q_p : Option Addr} {q_n : Nat} {q_c : Nat} {rest_p : Option Addr} {rest_n : Nat} {rest_c : Nat} {den_p : Option Addr} {den_n : Nat} {den_c : Nat} {m : Int} {w : World} {R : Value → World → Prop} (h : spec_l06Away neg q_p q_n q_c rest_p rest_n rest_c den_p den_n den_c m w R) : Ret P 139 [(.bool neg), (.slice q_p q_n q_c), (.slice rest_p rest_n rest_c), (.slice den_p den_n den_c), (.int .i64 m)] w R :=
  Ret.of_fsem Tryz.func139 rfl (Eq.mp (show _ = fsem P Tryz.f139 (fun k => []) _ R w from by kernel_rfl) h)
def impl_scaled (scale : Int) (w : World) (R : Value → World → Prop) : Prop :=
 ∀ (r : Nat) (wv : World), New w (.cells ⟨[(.int .i64 scale)]⟩ 3 (0, 0)) r wv →
 R (.func (.func 149) #[] #[(.pointer (some ⟨r, 0, none⟩))]) wv
theorem impl_scaled_ret {scale : Int} {w : World} {R : Value → World → Prop} (h : impl_scaled scale w R) : Ret P 140 [(.int .i64 scale)] w R :=
  Ret.of_fsem Tryz.func140 rfl (Eq.mp (show _ = fsem P Tryz.f140 (fun k => []) _ R w from by kernel_rfl) h)
def impl_intCmp (x0 : Bool) (x1_p : Option Addr) (x1_n : Nat) (x1_c : Nat) (y0 : Bool) (y1_p : Option Addr) (y1_n : Nat) (y1_c : Nat) (w : World) (R : Value → World → Prop) : Prop :=
 ∀ (r : Nat) (wv : World), New w (.cells ⟨[(.bool x0), (.slice x1_p x1_n x1_c)]⟩ 30 (0, 0)) r wv →
 ∀ (r_1 : Nat) (wv_1 : World), New wv (.cells ⟨[(.bool y0), (.slice y1_p y1_n y1_c)]⟩ 30 (0, 0)) r_1 wv_1 →
 ∃ (t50 : Bool) (t51_p : Option Addr) (t51_n : Nat) (t51_c : Nat), (∀ wv_2, Ext wv_1.drew wv_2 → Loads P 30 ⟨r, 0, none⟩ (.agg #[(.bool t50), (.slice t51_p t51_n t51_c)]) wv_2) ∧ ∃ (t60 : Bool) (t61_p : Option Addr) (t61_n : Nat) (t61_c : Nat), (∀ wv_3, Ext wv_1.drew wv_3 → Loads P 30 ⟨r_1, 0, none⟩ (.agg #[(.bool t60), (.slice t61_p t61_n t61_c)]) wv_3) ∧ Calls P 75 ⟨[(.agg #[(.bool t60), (.slice t61_p t61_n t61_c)])]⟩ wv_1.drew fun e wv_4 =>
 ∃ (t70 : Bool) (t71_p : Option Addr) (t71_n : Nat) (t71_c : Nat), e = .returned (.agg #[(.bool t70), (.slice t71_p t71_n t71_c)]) ∧
 Ext wv_1.drew wv_4 ∧ Calls P 74 ⟨[(.agg #[(.bool t50), (.slice t51_p t51_n t51_c)]), (.agg #[(.bool t70), (.slice t71_p t71_n t71_c)])]⟩ wv_4 fun e_1 wv_5 =>
 ∃ (t80 : Bool) (t81_p : Option Addr) (t81_n : Nat) (t81_c : Nat), e_1 = .returned (.agg #[(.bool t80), (.slice t81_p t81_n t81_c)]) ∧
 Calls P 150 ⟨[(.agg #[(.bool t80), (.slice t81_p t81_n t81_c)])]⟩ wv_5 fun e_2 wv_6 =>
 ∃ (t9 : Int), e_2 = .returned (.int .i64 t9) ∧
 R (.int .i64 t9) wv_6
theorem impl_intCmp_ret {x0 : Bool} {x1_p : Option Addr} {x1_n : Nat} {x1_c : Nat} {y0 : Bool} {y1_p : Option Addr} {y1_n : Nat} {y1_c : Nat} {w : World} {R : Value → World → Prop} (h : impl_intCmp x0 x1_p x1_n x1_c y0 y1_p y1_n y1_c w R) : Ret P 141 [(.agg #[(.bool x0), (.slice x1_p x1_n x1_c)]), (.agg #[(.bool y0), (.slice y1_p y1_n y1_c)])] w R :=
  Ret.of_fsem Tryz.func141 rfl (Eq.mp (show _ = fsem P Tryz.f141 (fun k => []) _ R w from by kernel_rfl) h)
def impl_natSmall (a_p : Option Addr) (a_n : Nat) (a_c : Nat) (d : Int) (w : World) (R : Value → World → Prop) : Prop :=
 (0 ≤ (((a_n : Nat) : Int) : Int) ∧ (((a_n : Nat) : Int) : Int) ≤ ((a_n : Nat) : Int) ∧ ((8 : Nat) : Int) * ((a_n : Nat) : Int) ≤ 281474976710656) ∧
 ∀ (r : Nat) (wv : World), New w (.cells ⟨zeroRow (.int .i64 0) (a_n * 1)⟩ 3 (0, 0)) r wv →
 ∃ t14 : Int, t14 = IntKind.wrap .i64 (((a_n : Nat) : Int) - 1) ∧ ∃ (Inv : Int → Int → World → Prop) (mu : Int → Int → World → Nat), Inv 0 t14 wv ∧
 ∀ (junk : Fr) (wv_1 : World) (rest : Int) (i : Int), Inv rest i wv_1 →
 ((decide ((0 : Int) ≤ i)) = true →
 ∃ t20 : Int, t20 = IntKind.wrap .i64 (rest * 1000000000) ∧ (0 ≤ (i : Int) ∧ (i : Int) < (a_n : Nat)) ∧ ptrS a_p fun ad => ∃ (t24 : Int), Loads P 3 (ad.add (i.toNat * 1)) (.int .i64 t24) wv_1 ∧ ∃ t25 : Int, t25 = IntKind.wrap .i64 (t20 + t24) ∧ (d : Int) ≠ 0 ∧ ∃ t30 : Int, t30 = IntKind.wrap .i64 (Int.tdiv t25 d) ∧ (0 ≤ (i : Int) ∧ (i : Int) < (a_n : Nat)) ∧ ∃ wv_2, Stores P 3 ((⟨r, 0, none⟩ : Addr).add (i.toNat * 1)) (.int .i64 t30) wv_1 wv_2 ∧
 (d : Int) ≠ 0 ∧ ∃ t34 : Int, t34 = Int.tmod t25 d ∧ ∃ t18 : Int, t18 = IntKind.wrap .i64 (i - 1) ∧ Inv t34 t18 wv_2 ∧ mu t34 t18 wv_2 < mu rest i wv_1) ∧
 ((decide ((0 : Int) ≤ i)) = false →
 Calls P 98 ⟨[(.slice (some ⟨r, 0, none⟩) a_n a_n)]⟩ wv_1 fun e wv_3 =>
 ∃ (t36_p : Option Addr) (t36_n : Nat) (t36_c : Nat), e = .returned (.slice t36_p t36_n t36_c) ∧
 R (.tuple #[(.slice t36_p t36_n t36_c), (.int .i64 rest)]) wv_3)
theorem impl_natSmall_ret {a_p : Option Addr} {a_n : Nat} {a_c : Nat} {d : Int} {w : World} {R : Value → World → Prop} (h : impl_natSmall a_p a_n a_c d w R) : Ret P 142 [(.slice a_p a_n a_c), (.int .i64 d)] w R :=
  Ret.of_fsem Tryz.func142 rfl (Eq.mp (show _ = fsem P Tryz.f142 (fun k => cond (Nat.beq k 5) [(7, .one (.int .i64)), (8, .one (.int .i64))] ([])) _ R w from by kernel_rfl) h)
def impl_divStep_j0 (q_1 : Int) (W : World) (R : Value → World → Prop) : Prop :=
 R (.int .i64 q_1) W
def impl_divStep_j1 (q_2 : Int) (W_1 : World) (R : Value → World → Prop) : Prop :=
 R (.int .i64 q_2) W_1
def impl_divStep_j2 (q_3 : Int) (W_2 : World) (R : Value → World → Prop) : Prop :=
 R (.int .i64 q_3) W_2
def impl_divStep_j3 (q_4 : Int) (W_3 : World) (R : Value → World → Prop) : Prop :=
 R (.int .i64 q_4) W_3
def impl_divStep (u_p : Option Addr) (u_n : Nat) (u_c : Nat) (v_p : Option Addr) (v_n : Nat) (v_c : Nat) (w : World) (R : Value → World → Prop) : Prop :=
 (0 ≤ (((v_n : Nat) : Int) : Int) ∧ (((v_n : Nat) : Int) : Int) < (u_n : Nat)) ∧ ptrS u_p fun ad => ∃ (t13 : Int), (∀ wv, Ext w.drew wv → Loads P 3 (ad.add (v_n * 1)) (.int .i64 t13) wv) ∧ ∃ t14 : Int, t14 = IntKind.wrap .i64 (t13 * 1000000000) ∧ ∃ t17 : Int, t17 = IntKind.wrap .i64 (((v_n : Nat) : Int) - 1) ∧ (0 ≤ (t17 : Int) ∧ (t17 : Int) < (u_n : Nat)) ∧ ptrS u_p fun ad_1 => ∃ (t19 : Int), (∀ wv_1, Ext w.drew wv_1 → Loads P 3 (ad_1.add (t17.toNat * 1)) (.int .i64 t19) wv_1) ∧ ∃ t20 : Int, t20 = IntKind.wrap .i64 (t14 + t19) ∧ ∃ t24 : Int, t24 = IntKind.wrap .i64 (((v_n : Nat) : Int) - 1) ∧ (0 ≤ (t24 : Int) ∧ (t24 : Int) < (v_n : Nat)) ∧ ptrS v_p fun ad_2 => ∃ (t26 : Int), Loads P 3 (ad_2.add (t24.toNat * 1)) (.int .i64 t26) w.drew ∧ (t26 : Int) ≠ 0 ∧ ∃ t27 : Int, t27 = IntKind.wrap .i64 (Int.tdiv t20 t26) ∧ ∃ t28 : Int, t28 = (if 999999999 < t27 then 999999999 else t27) ∧ ∃ (Inv : Int → World → Prop) (mu : Int → World → Nat), Inv t28 w.drew ∧
 ∀ (junk : Fr) (wv_2 : World) (q : Int), Inv q wv_2 →
 ((decide ((0 : Int) < q)) = true →
 ∃ t36 : Int, t36 = IntKind.wrap .i64 (((v_n : Nat) : Int) - 1) ∧ (0 ≤ (t36 : Int) ∧ (t36 : Int) < (v_n : Nat)) ∧ ptrS v_p fun ad_3 => ∃ (t38 : Int), (∀ wv_3, Ext wv_2.drew wv_3 → Loads P 3 (ad_3.add (t36.toNat * 1)) (.int .i64 t38) wv_3) ∧ ∃ t39 : Int, t39 = IntKind.wrap .i64 (q * t38) ∧ ∃ t40 : Int, t40 = IntKind.wrap .i64 (t20 - t39) ∧ ((decide ((t40 : Int) < 1000000000)) = true →
 ∃ t47 : Int, t47 = IntKind.wrap .i64 (((v_n : Nat) : Int) - 2) ∧ (0 ≤ (t47 : Int) ∧ (t47 : Int) < (v_n : Nat)) ∧ ptrS v_p fun ad_4 => ∃ (t49 : Int), (∀ wv_4, Ext wv_2.drew wv_4 → Loads P 3 (ad_4.add (t47.toNat * 1)) (.int .i64 t49) wv_4) ∧ ∃ t50 : Int, t50 = IntKind.wrap .i64 (q * t49) ∧ ∃ t55 : Int, t55 = IntKind.wrap .i64 (((v_n : Nat) : Int) - 1) ∧ (0 ≤ (t55 : Int) ∧ (t55 : Int) < (v_n : Nat)) ∧ ptrS v_p fun ad_5 => ∃ (t57 : Int), (∀ wv_5, Ext wv_2.drew wv_5 → Loads P 3 (ad_5.add (t55.toNat * 1)) (.int .i64 t57) wv_5) ∧ ∃ t58 : Int, t58 = IntKind.wrap .i64 (q * t57) ∧ ∃ t59 : Int, t59 = IntKind.wrap .i64 (t20 - t58) ∧ ∃ t60 : Int, t60 = IntKind.wrap .i64 (t59 * 1000000000) ∧ ∃ t63 : Int, t63 = IntKind.wrap .i64 (((v_n : Nat) : Int) - 2) ∧ (0 ≤ (t63 : Int) ∧ (t63 : Int) < (u_n : Nat)) ∧ ptrS u_p fun ad_6 => ∃ (t65 : Int), (∀ wv_6, Ext wv_2.drew wv_6 → Loads P 3 (ad_6.add (t63.toNat * 1)) (.int .i64 t65) wv_6) ∧ ∃ t66 : Int, t66 = IntKind.wrap .i64 (t60 + t65) ∧ ((decide ((t66 : Int) < t50)) = true →
 ∃ t70 : Int, t70 = IntKind.wrap .i64 (q - 1) ∧ Inv t70 wv_2.drew ∧ mu t70 wv_2.drew < mu q wv_2) ∧
 ((decide ((t66 : Int) < t50)) = false →
 Calls P 151 ⟨[(.slice u_p u_n u_c), (.slice v_p v_n v_c), (.int .i64 q)]⟩ wv_2.drew fun e wv_7 =>
 ∃ (t74 : Bool), e = .returned (.bool t74) ∧
 (t74 = true →
 ∃ t76 : Int, t76 = IntKind.wrap .i64 (q - 1) ∧ Calls P 152 ⟨[(.slice u_p u_n u_c), (.slice v_p v_n v_c)]⟩ wv_7 fun e_1 wv_8 =>
 e_1 = .returned (.tuple #[]) ∧
 impl_divStep_j0 t76 wv_8 R) ∧
 (t74 = false →
 impl_divStep_j0 q wv_7 R))) ∧
 ((decide ((t40 : Int) < 1000000000)) = false →
 (false = true →
 ∃ t70_1 : Int, t70_1 = IntKind.wrap .i64 (q - 1) ∧ Inv t70_1 wv_2.drew ∧ mu t70_1 wv_2.drew < mu q wv_2) ∧
 (false = false →
 Calls P 151 ⟨[(.slice u_p u_n u_c), (.slice v_p v_n v_c), (.int .i64 q)]⟩ wv_2.drew fun e_2 wv_9 =>
 ∃ (t74_1 : Bool), e_2 = .returned (.bool t74_1) ∧
 (t74_1 = true →
 ∃ t76_1 : Int, t76_1 = IntKind.wrap .i64 (q - 1) ∧ Calls P 152 ⟨[(.slice u_p u_n u_c), (.slice v_p v_n v_c)]⟩ wv_9 fun e_3 wv_10 =>
 e_3 = .returned (.tuple #[]) ∧
 impl_divStep_j1 t76_1 wv_10 R) ∧
 (t74_1 = false →
 impl_divStep_j1 q wv_9 R)))) ∧
 ((decide ((0 : Int) < q)) = false →
 (false = true →
 ∃ t47_1 : Int, t47_1 = IntKind.wrap .i64 (((v_n : Nat) : Int) - 2) ∧ (0 ≤ (t47_1 : Int) ∧ (t47_1 : Int) < (v_n : Nat)) ∧ ptrS v_p fun ad_7 => ∃ (t49_1 : Int), (∀ wv_11, Ext wv_2.drew wv_11 → Loads P 3 (ad_7.add (t47_1.toNat * 1)) (.int .i64 t49_1) wv_11) ∧ ∃ t50_1 : Int, t50_1 = IntKind.wrap .i64 (q * t49_1) ∧ ∃ t55_1 : Int, t55_1 = IntKind.wrap .i64 (((v_n : Nat) : Int) - 1) ∧ (0 ≤ (t55_1 : Int) ∧ (t55_1 : Int) < (v_n : Nat)) ∧ ptrS v_p fun ad_8 => ∃ (t57_1 : Int), (∀ wv_12, Ext wv_2.drew wv_12 → Loads P 3 (ad_8.add (t55_1.toNat * 1)) (.int .i64 t57_1) wv_12) ∧ ∃ t58_1 : Int, t58_1 = IntKind.wrap .i64 (q * t57_1) ∧ ∃ t59_1 : Int, t59_1 = IntKind.wrap .i64 (t20 - t58_1) ∧ ∃ t60_1 : Int, t60_1 = IntKind.wrap .i64 (t59_1 * 1000000000) ∧ ∃ t63_1 : Int, t63_1 = IntKind.wrap .i64 (((v_n : Nat) : Int) - 2) ∧ (0 ≤ (t63_1 : Int) ∧ (t63_1 : Int) < (u_n : Nat)) ∧ ptrS u_p fun ad_9 => ∃ (t65_1 : Int), (∀ wv_13, Ext wv_2.drew wv_13 → Loads P 3 (ad_9.add (t63_1.toNat * 1)) (.int .i64 t65_1) wv_13) ∧ ∃ t66_1 : Int, t66_1 = IntKind.wrap .i64 (t60_1 + t65_1) ∧ ((decide ((t66_1 : Int) < t50_1)) = true →
 ∃ t70_2 : Int, t70_2 = IntKind.wrap .i64 (q - 1) ∧ Inv t70_2 wv_2.drew ∧ mu t70_2 wv_2.drew < mu q wv_2) ∧
 ((decide ((t66_1 : Int) < t50_1)) = false →
 Calls P 151 ⟨[(.slice u_p u_n u_c), (.slice v_p v_n v_c), (.int .i64 q)]⟩ wv_2.drew fun e_4 wv_14 =>
 ∃ (t74_2 : Bool), e_4 = .returned (.bool t74_2) ∧
 (t74_2 = true →
 ∃ t76_2 : Int, t76_2 = IntKind.wrap .i64 (q - 1) ∧ Calls P 152 ⟨[(.slice u_p u_n u_c), (.slice v_p v_n v_c)]⟩ wv_14 fun e_5 wv_15 =>
 e_5 = .returned (.tuple #[]) ∧
 impl_divStep_j2 t76_2 wv_15 R) ∧
 (t74_2 = false →
 impl_divStep_j2 q wv_14 R))) ∧
 (false = false →
 (false = true →
 ∃ t70_3 : Int, t70_3 = IntKind.wrap .i64 (q - 1) ∧ Inv t70_3 wv_2.drew ∧ mu t70_3 wv_2.drew < mu q wv_2) ∧
 (false = false →
 Calls P 151 ⟨[(.slice u_p u_n u_c), (.slice v_p v_n v_c), (.int .i64 q)]⟩ wv_2.drew fun e_6 wv_16 =>
 ∃ (t74_3 : Bool), e_6 = .returned (.bool t74_3) ∧
 (t74_3 = true →
 ∃ t76_3 : Int, t76_3 = IntKind.wrap .i64 (q - 1) ∧ Calls P 152 ⟨[(.slice u_p u_n u_c), (.slice v_p v_n v_c)]⟩ wv_16 fun e_7 wv_17 =>
 e_7 = .returned (.tuple #[]) ∧
 impl_divStep_j3 t76_3 wv_17 R) ∧
 (t74_3 = false →
 impl_divStep_j3 q wv_16 R))))
theorem impl_divStep_ret {u_p : Option Addr} {u_n : Nat} {u_c : Nat} {v_p : Option Addr} {v_n : Nat} {v_c : Nat} {w : World} {R : Value → World → Prop} (h : impl_divStep u_p u_n u_c v_p v_n v_c w R) : Ret P 143 [(.slice u_p u_n u_c), (.slice v_p v_n v_c)] w R :=
  Ret.of_fsem Tryz.func143 rfl (Eq.mp (show _ = fsem P Tryz.f143 (fun k => cond (Nat.beq k 5) [(7, .one (.int .i64))] ([])) _ R w from by kernel_rfl) h)
def impl_roundModes (w : World) (R : Value → World → Prop) : Prop :=
 ∀ (r : Nat) (wv : World), New w (.cells ⟨[(.string ByteArray.empty), .nilFunc, (.string ByteArray.empty), .nilFunc, (.string ByteArray.empty), .nilFunc, (.string ByteArray.empty), .nilFunc, (.string ByteArray.empty), .nilFunc, (.string ByteArray.empty), .nilFunc, (.string ByteArray.empty), .nilFunc]⟩ 138 (0, 0)) r wv →
 ∃ wv_1, Stores P 138 ⟨r, 0, none⟩ (.agg #[(.string (S [100, 111, 119, 110])), (.func (.func 153) #[] #[]), (.string (S [117, 112])), (.func (.func 154) #[] #[]), (.string (S [102, 108, 111, 111, 114])), (.func (.func 155) #[] #[]), (.string (S [99, 101, 105, 108])), (.func (.func 156) #[] #[]), (.string (S [104, 97, 108, 102, 100, 111, 119, 110])), (.func (.func 157) #[] #[]), (.string (S [104, 97, 108, 102, 117, 112])), (.func (.func 158) #[] #[]), (.string (S [104, 97, 108, 102, 101, 118, 101, 110])), (.func (.func 159) #[] #[])]) wv wv_1 ∧
 ∃ (r0 : ByteArray) (r1 : Value) (r2 : ByteArray) (r3 : Value) (r4 : ByteArray) (r5 : Value) (r6 : ByteArray) (r7 : Value) (r8 : ByteArray) (r9 : Value) (r10 : ByteArray) (r11 : Value) (r12 : ByteArray) (r13 : Value), Loads P 138 ⟨r, 0, none⟩ (.agg #[(.string r0), r1, (.string r2), r3, (.string r4), r5, (.string r6), r7, (.string r8), r9, (.string r10), r11, (.string r12), r13]) wv_1 ∧ R (.agg #[(.string r0), r1, (.string r2), r3, (.string r4), r5, (.string r6), r7, (.string r8), r9, (.string r10), r11, (.string r12), r13]) wv_1
theorem impl_roundModes_eq (w : World) (R : Value → World → Prop) : impl_roundModes w R = fsem P Tryz.f144 (fun k => []) [] R w := by kernel_rfl
set_option maxHeartbeats 4000000 in
theorem impl_roundModes_ret {w : World} {R : Value → World → Prop} (h : impl_roundModes w R) : Ret P 144 [] w R := by
  have h2 := impl_roundModes_eq w R
  have h3 : fsem P Tryz.f144 (fun k => []) [] R w := by rw [← h2]; exact h
  exact Ret.of_fsem (fn := Tryz.f144) (car := (fun k => [])) (args := []) (w := w) (R := R) Tryz.func144 rfl h3
def impl_NatEven (a_p : Option Addr) (a_n : Nat) (a_c : Nat) (w : World) (R : Value → World → Prop) : Prop :=
 Calls P 94 ⟨[(.slice a_p a_n a_c)]⟩ w fun e wv =>
 ∃ (t4 : Bool), e = .returned (.bool t4) ∧
 (t4 = true →
 ((decide ((((a_n : Nat) : Int) : Int) = 0)) = true →
 R (.bool true) wv) ∧
 ((decide ((((a_n : Nat) : Int) : Int) = 0)) = false →
 (0 ≤ (0 : Int) ∧ (0 : Int) < (a_n : Nat)) ∧ ptrS a_p fun ad => ∃ (t12 : Int), Loads P 3 (ad.add (0 * 1)) (.int .i64 t12) wv ∧ (2 : Int) ≠ 0 ∧ ∃ t13 : Int, t13 = Int.tmod t12 2 ∧ R (.bool (decide ((t13 : Int) = 0))) wv)) ∧
 (t4 = false →
 R (.bool false) wv)
theorem impl_NatEven_ret {a_p : Option Addr} {a_n : Nat} {a_c : Nat} {w : World} {R : Value → World → Prop} (h : impl_NatEven a_p a_n a_c w R) : Ret P 145 [(.slice a_p a_n a_c)] w R :=
  Ret.of_fsem Tryz.func145 rfl (Eq.mp (show _ = fsem P Tryz.f145 (fun k => []) _ R w from by kernel_rfl) h)
def impl_intsOk (x0 : Bool) (x1_p : Option Addr) (x1_n : Nat) (x1_c : Nat) (y0 : Bool) (y1_p : Option Addr) (y1_n : Nat) (y1_c : Nat) (w : World) (R : Value → World → Prop) : Prop :=
 ∀ (r : Nat) (wv : World), New w (.cells ⟨[(.bool x0), (.slice x1_p x1_n x1_c)]⟩ 30 (0, 0)) r wv →
 ∀ (r_1 : Nat) (wv_1 : World), New wv (.cells ⟨[(.bool y0), (.slice y1_p y1_n y1_c)]⟩ 30 (0, 0)) r_1 wv_1 →
 ∃ (t50 : Bool) (t51_p : Option Addr) (t51_n : Nat) (t51_c : Nat), Loads P 30 ⟨r, 0, none⟩ (.agg #[(.bool t50), (.slice t51_p t51_n t51_c)]) wv_1 ∧ Calls P 59 ⟨[(.agg #[(.bool t50), (.slice t51_p t51_n t51_c)])]⟩ wv_1 fun e wv_2 =>
 ∃ (t6 : Bool), e = .returned (.bool t6) ∧
 (t6 = true →
 ∃ (t80 : Bool) (t81_p : Option Addr) (t81_n : Nat) (t81_c : Nat), Loads P 30 ⟨r_1, 0, none⟩ (.agg #[(.bool t80), (.slice t81_p t81_n t81_c)]) wv_2 ∧ Calls P 59 ⟨[(.agg #[(.bool t80), (.slice t81_p t81_n t81_c)])]⟩ wv_2 fun e_1 wv_3 =>
 ∃ (t9 : Bool), e_1 = .returned (.bool t9) ∧
 R (.bool t9) wv_3) ∧
 (t6 = false →
 R (.bool false) wv_2)
theorem impl_intsOk_ret {x0 : Bool} {x1_p : Option Addr} {x1_n : Nat} {x1_c : Nat} {y0 : Bool} {y1_p : Option Addr} {y1_n : Nat} {y1_c : Nat} {w : World} {R : Value → World → Prop} (h : impl_intsOk x0 x1_p x1_n x1_c y0 y1_p y1_n y1_c w R) : Ret P 146 [(.agg #[(.bool x0), (.slice x1_p x1_n x1_c)]), (.agg #[(.bool y0), (.slice y1_p y1_n y1_c)])] w R :=
  Ret.of_fsem Tryz.func146 rfl (Eq.mp (show _ = fsem P Tryz.f146 (fun k => []) _ R w from by kernel_rfl) h)
def spec_IntMul (x0 : Bool) (x1_p : Option Addr) (x1_n : Nat) (x1_c : Nat) (y0 : Bool) (y1_p : Option Addr) (y1_n : Nat) (y1_c : Nat) (w : World) (R : Value → World → Prop) : Prop :=
 ∀ (r : Nat) (wv : World), New w (.cells ⟨[(.bool x0), (.slice x1_p x1_n x1_c)]⟩ 30 (0, 0)) r wv →
 ∀ (r_1 : Nat) (wv_1 : World), New wv (.cells ⟨[(.bool y0), (.slice y1_p y1_n y1_c)]⟩ 30 (0, 0)) r_1 wv_1 →
 ∀ (r_2 : Nat) (wv_2 : World), New wv_1 (.cells ⟨[(.bool false), (.slice none 0 0)]⟩ 30 (0, 0)) r_2 wv_2 →
 ∃ (t50 : Bool) (t51_p : Option Addr) (t51_n : Nat) (t51_c : Nat), Loads P 30 ⟨r, 0, none⟩ (.agg #[(.bool t50), (.slice t51_p t51_n t51_c)]) wv_2 ∧ Calls P 43 ⟨[(.agg #[(.bool t50), (.slice t51_p t51_n t51_c)])]⟩ wv_2 fun e wv_3 =>
 ∃ (t6 : Bool), e = .returned (.bool t6) ∧
 ((!t6) = true →
 (true = true →
 ∃ wv_4, Stores P 30 ⟨r_2, 0, none⟩ (.agg #[(.bool false), (.slice none 0 0)]) wv_3 wv_4 ∧
 ∃ (r0 : Bool) (r1_p : Option Addr) (r1_n : Nat) (r1_c : Nat), Loads P 30 ⟨r_2, 0, none⟩ (.agg #[(.bool r0), (.slice r1_p r1_n r1_c)]) wv_4 ∧ R (.agg #[(.bool r0), (.slice r1_p r1_n r1_c)]) wv_4) ∧
 (true = false →
 ∃ (t15 : Bool), (∀ wv_5, Ext wv_3.drew wv_5 → Loads P 4 ((⟨r, 0, none⟩ : Addr).add 0) (.bool t15) wv_5) ∧ ∃ (t17 : Bool), (∀ wv_6, Ext wv_3.drew wv_6 → Loads P 4 ((⟨r_1, 0, none⟩ : Addr).add 0) (.bool t17) wv_6) ∧ ∃ (t20_p : Option Addr) (t20_n : Nat) (t20_c : Nat), (∀ wv_7, Ext wv_3.drew wv_7 → Loads P 23 ((⟨r, 0, none⟩ : Addr).add 1) (.slice t20_p t20_n t20_c) wv_7) ∧ ∃ (t22_p : Option Addr) (t22_n : Nat) (t22_c : Nat), (∀ wv_8, Ext wv_3.drew wv_8 → Loads P 23 ((⟨r_1, 0, none⟩ : Addr).add 1) (.slice t22_p t22_n t22_c) wv_8) ∧ Calls P 87 ⟨[(.slice t20_p t20_n t20_c), (.slice t22_p t22_n t22_c)]⟩ wv_3.drew fun e_1 wv_9 =>
 ∃ (t23_p : Option Addr) (t23_n : Nat) (t23_c : Nat), e_1 = .returned (.slice t23_p t23_n t23_c) ∧
 Ext wv_3.drew wv_9 ∧ Calls P 79 ⟨[(.bool (!(t15 == t17))), (.slice t23_p t23_n t23_c)]⟩ wv_9 fun e_2 wv_10 =>
 ∃ (t240 : Bool) (t241_p : Option Addr) (t241_n : Nat) (t241_c : Nat), e_2 = .returned (.agg #[(.bool t240), (.slice t241_p t241_n t241_c)]) ∧
 ∃ wv_11, Stores P 30 ⟨r_2, 0, none⟩ (.agg #[(.bool t240), (.slice t241_p t241_n t241_c)]) wv_10 wv_11 ∧
 ∃ (r0_1 : Bool) (r1_p_1 : Option Addr) (r1_n_1 : Nat) (r1_c_1 : Nat), Loads P 30 ⟨r_2, 0, none⟩ (.agg #[(.bool r0_1), (.slice r1_p_1 r1_n_1 r1_c_1)]) wv_11 ∧ R (.agg #[(.bool r0_1), (.slice r1_p_1 r1_n_1 r1_c_1)]) wv_11)) ∧
 ((!t6) = false →
 ∃ (t90 : Bool) (t91_p : Option Addr) (t91_n : Nat) (t91_c : Nat), Loads P 30 ⟨r_1, 0, none⟩ (.agg #[(.bool t90), (.slice t91_p t91_n t91_c)]) wv_3 ∧ Calls P 43 ⟨[(.agg #[(.bool t90), (.slice t91_p t91_n t91_c)])]⟩ wv_3 fun e_3 wv_12 =>
 ∃ (t10 : Bool), e_3 = .returned (.bool t10) ∧
 ((!t10) = true →
 ∃ wv_13, Stores P 30 ⟨r_2, 0, none⟩ (.agg #[(.bool false), (.slice none 0 0)]) wv_12 wv_13 ∧
 ∃ (r0_2 : Bool) (r1_p_2 : Option Addr) (r1_n_2 : Nat) (r1_c_2 : Nat), Loads P 30 ⟨r_2, 0, none⟩ (.agg #[(.bool r0_2), (.slice r1_p_2 r1_n_2 r1_c_2)]) wv_13 ∧ R (.agg #[(.bool r0_2), (.slice r1_p_2 r1_n_2 r1_c_2)]) wv_13) ∧
 ((!t10) = false →
 ∃ (t15_1 : Bool), (∀ wv_14, Ext wv_12.drew wv_14 → Loads P 4 ((⟨r, 0, none⟩ : Addr).add 0) (.bool t15_1) wv_14) ∧ ∃ (t17_1 : Bool), (∀ wv_15, Ext wv_12.drew wv_15 → Loads P 4 ((⟨r_1, 0, none⟩ : Addr).add 0) (.bool t17_1) wv_15) ∧ ∃ (t20_p_1 : Option Addr) (t20_n_1 : Nat) (t20_c_1 : Nat), (∀ wv_16, Ext wv_12.drew wv_16 → Loads P 23 ((⟨r, 0, none⟩ : Addr).add 1) (.slice t20_p_1 t20_n_1 t20_c_1) wv_16) ∧ ∃ (t22_p_1 : Option Addr) (t22_n_1 : Nat) (t22_c_1 : Nat), (∀ wv_17, Ext wv_12.drew wv_17 → Loads P 23 ((⟨r_1, 0, none⟩ : Addr).add 1) (.slice t22_p_1 t22_n_1 t22_c_1) wv_17) ∧ Calls P 87 ⟨[(.slice t20_p_1 t20_n_1 t20_c_1), (.slice t22_p_1 t22_n_1 t22_c_1)]⟩ wv_12.drew fun e_4 wv_18 =>
 ∃ (t23_p_1 : Option Addr) (t23_n_1 : Nat) (t23_c_1 : Nat), e_4 = .returned (.slice t23_p_1 t23_n_1 t23_c_1) ∧
 Ext wv_12.drew wv_18 ∧ Calls P 79 ⟨[(.bool (!(t15_1 == t17_1))), (.slice t23_p_1 t23_n_1 t23_c_1)]⟩ wv_18 fun e_5 wv_19 =>
 ∃ (t240_1 : Bool) (t241_p_1 : Option Addr) (t241_n_1 : Nat) (t241_c_1 : Nat), e_5 = .returned (.agg #[(.bool t240_1), (.slice t241_p_1 t241_n_1 t241_c_1)]) ∧
 ∃ wv_20, Stores P 30 ⟨r_2, 0, none⟩ (.agg #[(.bool t240_1), (.slice t241_p_1 t241_n_1 t241_c_1)]) wv_19 wv_20 ∧
 ∃ (r0_3 : Bool) (r1_p_3 : Option Addr) (r1_n_3 : Nat) (r1_c_3 : Nat), Loads P 30 ⟨r_2, 0, none⟩ (.agg #[(.bool r0_3), (.slice r1_p_3 r1_n_3 r1_c_3)]) wv_20 ∧ R (.agg #[(.bool r0_3), (.slice r1_p_3 r1_n_3 r1_c_3)]) wv_20))
theorem spec_IntMul_ret {x0 : Bool} {x1_p : Option Addr} {x1_n : Nat} {x1_c : Nat} {y0 : Bool} {y1_p : Option Addr} {y1_n : Nat} {y1_c : Nat} {w : World} {R : Value → World → Prop} (h : spec_IntMul x0 x1_p x1_n x1_c y0 y1_p y1_n y1_c w R) : Ret P 147 [(.agg #[(.bool x0), (.slice x1_p x1_n x1_c)]), (.agg #[(.bool y0), (.slice y1_p y1_n y1_c)])] w R :=
  Ret.of_fsem Tryz.func147 rfl (Eq.mp (show _ = fsem P Tryz.f147 (fun k => []) _ R w from by kernel_rfl) h)
def spec_NatEven (a_p : Option Addr) (a_n : Nat) (a_c : Nat) (w : World) (R : Value → World → Prop) : Prop :=
 Calls P 78 ⟨[(.slice a_p a_n a_c)]⟩ w fun e wv =>
 ∃ (t4 : Bool), e = .returned (.bool t4) ∧
 (t4 = true →
 ((decide ((((a_n : Nat) : Int) : Int) = 0)) = true →
 R (.bool true) wv) ∧
 ((decide ((((a_n : Nat) : Int) : Int) = 0)) = false →
 (0 ≤ (0 : Int) ∧ (0 : Int) < (a_n : Nat)) ∧ ptrS a_p fun ad => ∃ (t12 : Int), Loads P 3 (ad.add (0 * 1)) (.int .i64 t12) wv ∧ (2 : Int) ≠ 0 ∧ ∃ t13 : Int, t13 = Int.tmod t12 2 ∧ R (.bool (decide ((t13 : Int) = 0))) wv)) ∧
 (t4 = false →
 R (.bool false) wv)
theorem spec_NatEven_ret {a_p : Option Addr} {a_n : Nat} {a_c : Nat} {w : World} {R : Value → World → Prop} (h : spec_NatEven a_p a_n a_c w R) : Ret P 148 [(.slice a_p a_n a_c)] w R :=
  Ret.of_fsem Tryz.func148 rfl (Eq.mp (show _ = fsem P Tryz.f148 (fun k => []) _ R w from by kernel_rfl) h)
def impl_scaled_1 (d0 : Bool) (d1_p : Option Addr) (d1_n : Nat) (d1_c : Nat) (d2 : Int) (cap0 : Option Addr) (w : World) (R : Value → World → Prop) : Prop :=
 ∀ (r : Nat) (wv : World), New w (.cells ⟨[(.bool d0), (.slice d1_p d1_n d1_c), (.int .i64 d2)]⟩ 60 (0, 0)) r wv →
 ∀ (r_1 : Nat) (wv_1 : World), New wv (.cells ⟨[(.bool false), (.slice none 0 0)]⟩ 30 (0, 0)) r_1 wv_1 →
 ∃ (t6 : Bool), (∀ wv_2, Ext wv_1.drew wv_2 → Loads P 4 (((⟨r, 0, none⟩ : Addr).add 0).add 0) (.bool t6) wv_2) ∧ ∃ (t9_p : Option Addr) (t9_n : Nat) (t9_c : Nat), (∀ wv_3, Ext wv_1.drew wv_3 → Loads P 23 (((⟨r, 0, none⟩ : Addr).add 0).add 1) (.slice t9_p t9_n t9_c) wv_3) ∧ ptrS cap0 fun ad => ∃ (t10 : Int), (∀ wv_4, Ext wv_1.drew wv_4 → Loads P 3 ad (.int .i64 t10) wv_4) ∧ ∃ (t12 : Int), (∀ wv_5, Ext wv_1.drew wv_5 → Loads P 3 ((⟨r, 0, none⟩ : Addr).add 2) (.int .i64 t12) wv_5) ∧ ∃ t13 : Int, t13 = IntKind.wrap .i64 (t10 - t12) ∧ Calls P 104 ⟨[(.int .i64 t13)]⟩ wv_1.drew fun e wv_6 =>
 ∃ (t14_p : Option Addr) (t14_n : Nat) (t14_c : Nat), e = .returned (.slice t14_p t14_n t14_c) ∧
 Ext wv_1.drew wv_6 ∧ Calls P 102 ⟨[(.slice t9_p t9_n t9_c), (.slice t14_p t14_n t14_c)]⟩ wv_6 fun e_1 wv_7 =>
 ∃ (t15_p : Option Addr) (t15_n : Nat) (t15_c : Nat), e_1 = .returned (.slice t15_p t15_n t15_c) ∧
 Ext wv_6 wv_7 ∧ Calls P 109 ⟨[(.bool t6), (.slice t15_p t15_n t15_c)]⟩ wv_7 fun e_2 wv_8 =>
 ∃ (t160 : Bool) (t161_p : Option Addr) (t161_n : Nat) (t161_c : Nat), e_2 = .returned (.agg #[(.bool t160), (.slice t161_p t161_n t161_c)]) ∧
 ∃ wv_9, Stores P 30 ⟨r_1, 0, none⟩ (.agg #[(.bool t160), (.slice t161_p t161_n t161_c)]) wv_8 wv_9 ∧
 ∃ (r0 : Bool) (r1_p : Option Addr) (r1_n : Nat) (r1_c : Nat), Loads P 30 ⟨r_1, 0, none⟩ (.agg #[(.bool r0), (.slice r1_p r1_n r1_c)]) wv_9 ∧ R (.agg #[(.bool r0), (.slice r1_p r1_n r1_c)]) wv_9
theorem impl_scaled_1_ret {d0 : Bool} {d1_p : Option Addr} {d1_n : Nat} {d1_c : Nat} {d2 : Int} {cap0 : Option Addr} {w : World} {R : Value → World → Prop} (h : impl_scaled_1 d0 d1_p d1_n d1_c d2 cap0 w R) : Ret P 149 [(.agg #[(.bool d0), (.slice d1_p d1_n d1_c), (.int .i64 d2)]), (.pointer cap0)] w R :=
  Ret.of_fsem Tryz.func149 rfl (Eq.mp (show _ = fsem P Tryz.f149 (fun k => []) _ R w from by kernel_rfl) h)
def impl_intSign (x0 : Bool) (x1_p : Option Addr) (x1_n : Nat) (x1_c : Nat) (w : World) (R : Value → World → Prop) : Prop :=
 ∀ (r : Nat) (wv : World), New w (.cells ⟨[(.bool x0), (.slice x1_p x1_n x1_c)]⟩ 30 (0, 0)) r wv →
 ∃ (t5_p : Option Addr) (t5_n : Nat) (t5_c : Nat), Loads P 23 ((⟨r, 0, none⟩ : Addr).add 1) (.slice t5_p t5_n t5_c) wv ∧ ((decide ((((t5_n : Nat) : Int) : Int) = 0)) = true →
 R (.int .i64 0) wv) ∧
 ((decide ((((t5_n : Nat) : Int) : Int) = 0)) = false →
 ∃ (t10 : Bool), Loads P 4 ((⟨r, 0, none⟩ : Addr).add 0) (.bool t10) wv ∧ (t10 = true →
 R (.int .i64 (-1)) wv) ∧
 (t10 = false →
 R (.int .i64 1) wv))
theorem impl_intSign_ret {x0 : Bool} {x1_p : Option Addr} {x1_n : Nat} {x1_c : Nat} {w : World} {R : Value → World → Prop} (h : impl_intSign x0 x1_p x1_n x1_c w R) : Ret P 150 [(.agg #[(.bool x0), (.slice x1_p x1_n x1_c)])] w R :=
  Ret.of_fsem Tryz.func150 rfl (Eq.mp (show _ = fsem P Tryz.f150 (fun k => []) _ R w from by kernel_rfl) h)
def impl_subTimes_j0 (u_p : Option Addr) (u_n : Nat) (wv : World) (Inv : Int → Int → World → Prop) (mu : Int → Int → World → Nat) (borrow : Int) (t13 : Int) (borrow_1 : Int) (n : Int) (W : World) (R : Value → World → Prop) : Prop :=
 (0 ≤ (t13 : Int) ∧ (t13 : Int) < (u_n : Nat)) ∧ ptrS u_p fun ad_2 => ∃ wv_1, Stores P 3 (ad_2.add (t13.toNat * 1)) (.int .i64 n) W wv_1 ∧
 ∃ t43 : Int, t43 = IntKind.wrap .i64 (t13 + 1) ∧ Inv borrow_1 t43 wv_1 ∧ mu borrow_1 t43 wv_1 < mu borrow t13 wv
def impl_subTimes (u_p : Option Addr) (u_n : Nat) (u_c : Nat) (v_p : Option Addr) (v_n : Nat) (v_c : Nat) (q : Int) (w : World) (R : Value → World → Prop) : Prop :=
 ∃ (Inv : Int → Int → World → Prop) (mu : Int → Int → World → Nat), Inv 0 0 w ∧
 ∀ (junk : Fr) (wv : World) (borrow : Int) (t13 : Int), Inv borrow t13 wv →
 ((decide ((t13 : Int) < ((v_n : Nat) : Int))) = true →
 (0 ≤ (t13 : Int) ∧ (t13 : Int) < (v_n : Nat)) ∧ ptrS v_p fun ad => ∃ (t17 : Int), Loads P 3 (ad.add (t13.toNat * 1)) (.int .i64 t17) wv ∧ (0 ≤ (t13 : Int) ∧ (t13 : Int) < (u_n : Nat)) ∧ ptrS u_p fun ad_1 => ∃ (t21 : Int), Loads P 3 (ad_1.add (t13.toNat * 1)) (.int .i64 t21) wv ∧ ∃ t24 : Int, t24 = IntKind.wrap .i64 (t17 * q) ∧ ∃ t25 : Int, t25 = IntKind.wrap .i64 (t21 - t24) ∧ ∃ t27 : Int, t27 = IntKind.wrap .i64 (t25 - borrow) ∧ ((decide ((t27 : Int) < 0)) = true →
 ∃ t31 : Int, t31 = IntKind.wrap .i64 (0 - t27) ∧ ∃ t32 : Int, t32 = IntKind.wrap .i64 (t31 + 1000000000) ∧ ∃ t33 : Int, t33 = IntKind.wrap .i64 (t32 - 1) ∧ (1000000000 : Int) ≠ 0 ∧ ∃ t34 : Int, t34 = IntKind.wrap .i64 (Int.tdiv t33 1000000000) ∧ ∃ t37 : Int, t37 = IntKind.wrap .i64 (t34 * 1000000000) ∧ ∃ t38 : Int, t38 = IntKind.wrap .i64 (t27 + t37) ∧ impl_subTimes_j0 u_p u_n wv Inv mu borrow t13 t34 t38 wv R) ∧
 ((decide ((t27 : Int) < 0)) = false →
 impl_subTimes_j0 u_p u_n wv Inv mu borrow t13 0 t27 wv R)) ∧
 ((decide ((t13 : Int) < ((v_n : Nat) : Int))) = false →
 (0 ≤ (((v_n : Nat) : Int) : Int) ∧ (((v_n : Nat) : Int) : Int) < (u_n : Nat)) ∧ ptrS u_p fun ad_3 => ∃ (t48 : Int), Loads P 3 (ad_3.add (v_n * 1)) (.int .i64 t48) wv ∧ ∃ t50 : Int, t50 = IntKind.wrap .i64 (t48 - borrow) ∧ (0 ≤ (((v_n : Nat) : Int) : Int) ∧ (((v_n : Nat) : Int) : Int) < (u_n : Nat)) ∧ ptrS u_p fun ad_4 => ∃ wv_2, Stores P 3 (ad_4.add (v_n * 1)) (.int .i64 t50) wv wv_2 ∧
 (0 ≤ (((v_n : Nat) : Int) : Int) ∧ (((v_n : Nat) : Int) : Int) < (u_n : Nat)) ∧ ptrS u_p fun ad_5 => ∃ (t56 : Int), Loads P 3 (ad_5.add (v_n * 1)) (.int .i64 t56) wv_2 ∧ R (.bool (decide ((t56 : Int) < 0))) wv_2)
theorem impl_subTimes_ret {u_p : Option Addr} {u_n : Nat} {u_c : Nat} {v_p : Option Addr} {v_n : Nat} {v_c : Nat} {q : Int} {w : World} {R : Value → World → Prop} (h : impl_subTimes u_p u_n u_c v_p v_n v_c q w R) : Ret P 151 [(.slice u_p u_n u_c), (.slice v_p v_n v_c), (.int .i64 q)] w R :=
  Ret.of_fsem Tryz.func151 rfl (Eq.mp (show _ = fsem P Tryz.f151 (fun k => cond (Nat.beq k 4) [(7, .one (.int .i64)), (13, .one (.int .i64))] ([])) _ R w from by kernel_rfl) h)
def impl_addBack (u_p : Option Addr) (u_n : Nat) (u_c : Nat) (v_p : Option Addr) (v_n : Nat) (v_c : Nat) (w : World) (R : Value → World → Prop) : Prop :=
 ∃ (Inv : Int → Int → World → Prop) (mu : Int → Int → World → Nat), Inv 0 0 w ∧
 ∀ (junk : Fr) (wv : World) (carry : Int) (t9 : Int), Inv carry t9 wv →
 ((decide ((t9 : Int) < ((v_n : Nat) : Int))) = true →
 (0 ≤ (t9 : Int) ∧ (t9 : Int) < (v_n : Nat)) ∧ ptrS v_p fun ad => ∃ (t13 : Int), Loads P 3 (ad.add (t9.toNat * 1)) (.int .i64 t13) wv ∧ (0 ≤ (t9 : Int) ∧ (t9 : Int) < (u_n : Nat)) ∧ ptrS u_p fun ad_1 => ∃ (t18 : Int), Loads P 3 (ad_1.add (t9.toNat * 1)) (.int .i64 t18) wv ∧ ∃ t20 : Int, t20 = IntKind.wrap .i64 (t18 + t13) ∧ ∃ t21 : Int, t21 = IntKind.wrap .i64 (carry + t20) ∧ (1000000000 : Int) ≠ 0 ∧ ∃ t25 : Int, t25 = Int.tmod t21 1000000000 ∧ (0 ≤ (t9 : Int) ∧ (t9 : Int) < (u_n : Nat)) ∧ ptrS u_p fun ad_2 => ∃ wv_1, Stores P 3 (ad_2.add (t9.toNat * 1)) (.int .i64 t25) wv wv_1 ∧
 (1000000000 : Int) ≠ 0 ∧ ∃ t28 : Int, t28 = IntKind.wrap .i64 (Int.tdiv t21 1000000000) ∧ ∃ t29 : Int, t29 = IntKind.wrap .i64 (t9 + 1) ∧ Inv t28 t29 wv_1 ∧ mu t28 t29 wv_1 < mu carry t9 wv) ∧
 ((decide ((t9 : Int) < ((v_n : Nat) : Int))) = false →
 (0 ≤ (((v_n : Nat) : Int) : Int) ∧ (((v_n : Nat) : Int) : Int) < (u_n : Nat)) ∧ ptrS u_p fun ad_3 => ∃ (t34 : Int), Loads P 3 (ad_3.add (v_n * 1)) (.int .i64 t34) wv ∧ ∃ t36 : Int, t36 = IntKind.wrap .i64 (t34 + carry) ∧ (0 ≤ (((v_n : Nat) : Int) : Int) ∧ (((v_n : Nat) : Int) : Int) < (u_n : Nat)) ∧ ptrS u_p fun ad_4 => ∃ wv_2, Stores P 3 (ad_4.add (v_n * 1)) (.int .i64 t36) wv wv_2 ∧
 R (.tuple #[]) wv_2)
theorem impl_addBack_ret {u_p : Option Addr} {u_n : Nat} {u_c : Nat} {v_p : Option Addr} {v_n : Nat} {v_c : Nat} {w : World} {R : Value → World → Prop} (h : impl_addBack u_p u_n u_c v_p v_n v_c w R) : Ret P 152 [(.slice u_p u_n u_c), (.slice v_p v_n v_c)] w R :=
  Ret.of_fsem Tryz.func152 rfl (Eq.mp (show _ = fsem P Tryz.f152 (fun k => cond (Nat.beq k 3) [(4, .one (.int .i64)), (9, .one (.int .i64))] ([])) _ R w from by kernel_rfl) h)
def impl_roundModes_1 (a0 : Bool) (a1 : Int) (a2 : Bool) (w : World) (R : Value → World → Prop) : Prop :=
 R (.bool false) w
theorem impl_roundModes_1_ret {a0 : Bool} {a1 : Int} {a2 : Bool} {w : World} {R : Value → World → Prop} (h : impl_roundModes_1 a0 a1 a2 w R) : Ret P 153 [(.bool a0), (.int .i64 a1), (.bool a2)] w R :=
  Ret.of_fsem Tryz.func153 rfl (Eq.mp (show _ = fsem P Tryz.f153 (fun k => []) _ R w from by kernel_rfl) h)
def impl_roundModes_2 (a0 : Bool) (a1 : Int) (a2 : Bool) (w : World) (R : Value → World → Prop) : Prop :=
 R (.bool true) w
theorem impl_roundModes_2_ret {a0 : Bool} {a1 : Int} {a2 : Bool} {w : World} {R : Value → World → Prop} (h : impl_roundModes_2 a0 a1 a2 w R) : Ret P 154 [(.bool a0), (.int .i64 a1), (.bool a2)] w R :=
  Ret.of_fsem Tryz.func154 rfl (Eq.mp (show _ = fsem P Tryz.f154 (fun k => []) _ R w from by kernel_rfl) h)
def impl_roundModes_3 (neg : Bool) (u : Int) (u_1 : Bool) (w : World) (R : Value → World → Prop) : Prop :=
 R (.bool neg) w
theorem impl_roundModes_3_ret {neg : Bool} {u : Int} {u_1 : Bool} {w : World} {R : Value → World → Prop} (h : impl_roundModes_3 neg u u_1 w R) : Ret P 155 [(.bool neg), (.int .i64 u), (.bool u_1)] w R :=
  Ret.of_fsem Tryz.func155 rfl (Eq.mp (show _ = fsem P Tryz.f155 (fun k => []) _ R w from by kernel_rfl) h)
def impl_roundModes_4 (neg : Bool) (u : Int) (u_1 : Bool) (w : World) (R : Value → World → Prop) : Prop :=
 R (.bool (!neg)) w
theorem impl_roundModes_4_ret {neg : Bool} {u : Int} {u_1 : Bool} {w : World} {R : Value → World → Prop} (h : impl_roundModes_4 neg u u_1 w R) : Ret P 156 [(.bool neg), (.int .i64 u), (.bool u_1)] w R :=
  Ret.of_fsem Tryz.func156 rfl (Eq.mp (show _ = fsem P Tryz.f156 (fun k => []) _ R w from by kernel_rfl) h)
def impl_roundModes_5 (u : Bool) (half : Int) (u_1 : Bool) (w : World) (R : Value → World → Prop) : Prop :=
 R (.bool (decide ((0 : Int) < half))) w
theorem impl_roundModes_5_ret {u : Bool} {half : Int} {u_1 : Bool} {w : World} {R : Value → World → Prop} (h : impl_roundModes_5 u half u_1 w R) : Ret P 157 [(.bool u), (.int .i64 half), (.bool u_1)] w R :=
  Ret.of_fsem Tryz.func157 rfl (Eq.mp (show _ = fsem P Tryz.f157 (fun k => []) _ R w from by kernel_rfl) h)
def impl_roundModes_6 (u : Bool) (half : Int) (u_1 : Bool) (w : World) (R : Value → World → Prop) : Prop :=
 R (.bool (decide ((0 : Int) ≤ half))) w
theorem impl_roundModes_6_ret {u : Bool} {half : Int} {u_1 : Bool} {w : World} {R : Value → World → Prop} (h : impl_roundModes_6 u half u_1 w R) : Ret P 158 [(.bool u), (.int .i64 half), (.bool u_1)] w R :=
  Ret.of_fsem Tryz.func158 rfl (Eq.mp (show _ = fsem P Tryz.f158 (fun k => []) _ R w from by kernel_rfl) h)
def impl_roundModes_7 (u : Bool) (half : Int) (odd : Bool) (w : World) (R : Value → World → Prop) : Prop :=
 ((decide ((0 : Int) < half)) = true →
 R (.bool true) w) ∧
 ((decide ((0 : Int) < half)) = false →
 ((decide ((half : Int) = 0)) = true →
 R (.bool odd) w) ∧
 ((decide ((half : Int) = 0)) = false →
 R (.bool false) w))
theorem impl_roundModes_7_ret {u : Bool} {half : Int} {odd : Bool} {w : World} {R : Value → World → Prop} (h : impl_roundModes_7 u half odd w R) : Ret P 159 [(.bool u), (.int .i64 half), (.bool odd)] w R :=
  Ret.of_fsem Tryz.func159 rfl (Eq.mp (show _ = fsem P Tryz.f159 (fun k => []) _ R w from by kernel_rfl) h)
end Go.Proofs.YtmajiilehdpdmaaGreatDoor

namespace Go.Proofs.YtmajiilehdpdmaaGreatDoor
open Go Go.Proofs.YtmajiilehdpdmaaGreatDoor.Sx
set_option linter.unusedVariables false
set_option maxRecDepth 100000
def laws_szStepS (a_p : Option Addr) (a_n : Nat) (a_c : Nat) (left : Int) (w : World) (R : Value → World → Prop) : Prop :=
 ∃ t9 : Int, t9 = IntKind.wrap .i64 (left - ((a_n : Nat) : Int)) ∧ ((decide ((t9 : Int) < 0)) = true →
 R (.int .i64 (-1)) w) ∧
 ((decide ((t9 : Int) < 0)) = false →
 ∃ (Inv : Int → Int → World → Prop) (mu : Int → Int → World → Nat), Inv t9 0 w ∧
 ∀ (junk : Fr) (wv : World) (left_1 : Int) (i : Int), Inv left_1 i wv →
 ((decide ((i : Int) < ((a_n : Nat) : Int))) = true →
 (0 ≤ (i : Int) ∧ (i : Int) < (a_n : Nat)) ∧ ptrS a_p fun ad => ∃ (t210 : Int) (t211 : Bool) (t212_p : Option Addr) (t212_n : Nat) (t212_c : Nat) (t213 : Int), Loads P 53 (ad.add (i.toNat * 4)) (.agg #[(.int .i64 t210), (.bool t211), (.slice t212_p t212_n t212_c), (.int .i64 t213)]) wv ∧ Calls P 21 ⟨[(.agg #[(.int .i64 t210), (.bool t211), (.slice t212_p t212_n t212_c), (.int .i64 t213)]), (.int .i64 left_1)]⟩ wv fun e wv_1 =>
 ∃ (t23 : Int), e = .returned (.int .i64 t23) ∧
 ((decide ((t23 : Int) < 0)) = true →
 R (.int .i64 (-1)) wv_1) ∧
 ((decide ((t23 : Int) < 0)) = false →
 ∃ t17 : Int, t17 = IntKind.wrap .i64 (i + 1) ∧ Inv t23 t17 wv_1 ∧ mu t23 t17 wv_1 < mu left_1 i wv)) ∧
 ((decide ((i : Int) < ((a_n : Nat) : Int))) = false →
 R (.int .i64 left_1) wv))
theorem laws_szStepS_ret {a_p : Option Addr} {a_n : Nat} {a_c : Nat} {left : Int} {w : World} {R : Value → World → Prop} (h : laws_szStepS a_p a_n a_c left w R) : Ret P 5 [(.slice a_p a_n a_c), (.int .i64 left)] w R :=
  Ret.of_fsem Tryz.func5 rfl (Eq.mp (show _ = fsem P Tryz.f5 (fun k => cond (Nat.beq k 6) [(1, .one (.int .i64)), (5, .one (.int .i64))] ([])) _ R w from by kernel_rfl) h)
def laws_szMoney (a0 : ByteArray) (a1 : Bool) (a2_p : Option Addr) (a2_n : Nat) (a2_c : Nat) (left : Int) (w : World) (R : Value → World → Prop) : Prop :=
 ∀ (r : Nat) (wv : World), New w (.cells ⟨[(.string a0), (.bool a1), (.slice a2_p a2_n a2_c)]⟩ 27 (0, 0)) r wv →
 ∃ (t7 : ByteArray), Loads P 9 ((⟨r, 0, none⟩ : Addr).add 0) (.string t7) wv ∧ ∃ t9 : Int, t9 = IntKind.wrap .i64 (left - ((t7.size : Nat) : Int)) ∧ ((decide ((t9 : Int) < 0)) = true →
 R (.int .i64 (-1)) wv) ∧
 ((decide ((t9 : Int) < 0)) = false →
 ∃ (t130 : Bool) (t131_p : Option Addr) (t131_n : Nat) (t131_c : Nat), Loads P 25 ((⟨r, 0, none⟩ : Addr).add 1) (.agg #[(.bool t130), (.slice t131_p t131_n t131_c)]) wv ∧ Calls P 22 ⟨[(.agg #[(.bool t130), (.slice t131_p t131_n t131_c)]), (.int .i64 t9)]⟩ wv fun e wv_1 =>
 ∃ (t15 : Int), e = .returned (.int .i64 t15) ∧
 ((decide ((t15 : Int) < 0)) = true →
 R (.int .i64 (-1)) wv_1) ∧
 ((decide ((t15 : Int) < 0)) = false →
 R (.int .i64 t15) wv_1))
theorem laws_szMoney_ret {a0 : ByteArray} {a1 : Bool} {a2_p : Option Addr} {a2_n : Nat} {a2_c : Nat} {left : Int} {w : World} {R : Value → World → Prop} (h : laws_szMoney a0 a1 a2_p a2_n a2_c left w R) : Ret P 6 [(.agg #[(.string a0), (.bool a1), (.slice a2_p a2_n a2_c)]), (.int .i64 left)] w R :=
  Ret.of_fsem Tryz.func6 rfl (Eq.mp (show _ = fsem P Tryz.f6 (fun k => []) _ R w from by kernel_rfl) h)
def laws_toStepS (a_p : Option Addr) (a_n : Nat) (a_c : Nat) (w : World) (R : Value → World → Prop) : Prop :=
 (0 ≤ (((a_n : Nat) : Int) : Int) ∧ (((a_n : Nat) : Int) : Int) ≤ ((a_n : Nat) : Int) ∧ ((48 : Nat) : Int) * ((a_n : Nat) : Int) ≤ 281474976710656) ∧
 ∀ (r : Nat) (wv : World), New w (.cells ⟨zeroRow (.agg #[(.int .i64 0), (.bool false), (.slice none 0 0), (.int .i64 0)]) (a_n * 4)⟩ 62 (0, 0)) r wv →
 ∃ (Inv : Int → World → Prop) (mu : Int → World → Nat), Inv 0 wv ∧
 ∀ (junk : Fr) (wv_1 : World) (i : Int), Inv i wv_1 →
 ((decide ((i : Int) < ((a_n : Nat) : Int))) = true →
 (0 ≤ (i : Int) ∧ (i : Int) < (a_n : Nat)) ∧ ptrS a_p fun ad => ∃ (t190 : Int) (t191 : Bool) (t192_p : Option Addr) (t192_n : Nat) (t192_c : Nat) (t193 : Int), Loads P 53 (ad.add (i.toNat * 4)) (.agg #[(.int .i64 t190), (.bool t191), (.slice t192_p t192_n t192_c), (.int .i64 t193)]) wv_1 ∧ Calls P 26 ⟨[(.agg #[(.int .i64 t190), (.bool t191), (.slice t192_p t192_n t192_c), (.int .i64 t193)])]⟩ wv_1 fun e wv_2 =>
 ∃ (t200 : Int) (t201 : Bool) (t202_p : Option Addr) (t202_n : Nat) (t202_c : Nat) (t203 : Int), e = .returned (.agg #[(.int .i64 t200), (.bool t201), (.slice t202_p t202_n t202_c), (.int .i64 t203)]) ∧
 (0 ≤ (i : Int) ∧ (i : Int) < (a_n : Nat)) ∧ ∃ wv_3, Stores P 62 ((⟨r, 0, none⟩ : Addr).add (i.toNat * 4)) (.agg #[(.int .i64 t200), (.bool t201), (.slice t202_p t202_n t202_c), (.int .i64 t203)]) wv_2 wv_3 ∧
 ∃ t13 : Int, t13 = IntKind.wrap .i64 (i + 1) ∧ Inv t13 wv_3 ∧ mu t13 wv_3 < mu i wv_1) ∧
 ((decide ((i : Int) < ((a_n : Nat) : Int))) = false →
 R (.slice (some ⟨r, 0, none⟩) a_n a_n) wv_1)
theorem laws_toStepS_ret {a_p : Option Addr} {a_n : Nat} {a_c : Nat} {w : World} {R : Value → World → Prop} (h : laws_toStepS a_p a_n a_c w R) : Ret P 8 [(.slice a_p a_n a_c)] w R :=
  Ret.of_fsem Tryz.func8 rfl (Eq.mp (show _ = fsem P Tryz.f8 (fun k => cond (Nat.beq k 4) [(4, .one (.int .i64))] ([])) _ R w from by kernel_rfl) h)
def laws_toMoney (a0 : ByteArray) (a1 : Bool) (a2_p : Option Addr) (a2_n : Nat) (a2_c : Nat) (w : World) (R : Value → World → Prop) : Prop :=
 ∀ (r : Nat) (wv : World), New w (.cells ⟨[(.string a0), (.bool a1), (.slice a2_p a2_n a2_c)]⟩ 27 (0, 0)) r wv →
 ∀ (r_1 : Nat) (wv_1 : World), New wv (.cells ⟨[(.string ByteArray.empty), (.bool false), (.slice none 0 0)]⟩ 32 (0, 0)) r_1 wv_1 →
 ∀ (r_2 : Nat) (wv_2 : World), New wv_1 (.cells ⟨[(.string ByteArray.empty), (.bool false), (.slice none 0 0)]⟩ 32 (0, 0)) r_2 wv_2 →
 ∃ (t5 : ByteArray), Loads P 9 ((⟨r, 0, none⟩ : Addr).add 0) (.string t5) wv_2 ∧ ∃ wv_3, Stores P 9 ((⟨r_2, 0, none⟩ : Addr).add 0) (.string t5) wv_2 wv_3 ∧
 ∃ (t80 : Bool) (t81_p : Option Addr) (t81_n : Nat) (t81_c : Nat), Loads P 25 ((⟨r, 0, none⟩ : Addr).add 1) (.agg #[(.bool t80), (.slice t81_p t81_n t81_c)]) wv_3 ∧ Calls P 27 ⟨[(.agg #[(.bool t80), (.slice t81_p t81_n t81_c)])]⟩ wv_3 fun e wv_4 =>
 ∃ (t90 : Bool) (t91_p : Option Addr) (t91_n : Nat) (t91_c : Nat), e = .returned (.agg #[(.bool t90), (.slice t91_p t91_n t91_c)]) ∧
 ∃ wv_5, Stores P 30 ((⟨r_2, 0, none⟩ : Addr).add 1) (.agg #[(.bool t90), (.slice t91_p t91_n t91_c)]) wv_4 wv_5 ∧
 ∃ (t110 : ByteArray) (t111 : Bool) (t112_p : Option Addr) (t112_n : Nat) (t112_c : Nat), Loads P 32 ⟨r_2, 0, none⟩ (.agg #[(.string t110), (.bool t111), (.slice t112_p t112_n t112_c)]) wv_5 ∧ ∃ wv_6, Stores P 32 ⟨r_1, 0, none⟩ (.agg #[(.string t110), (.bool t111), (.slice t112_p t112_n t112_c)]) wv_5 wv_6 ∧
 ∃ (r0 : ByteArray) (r1 : Bool) (r2_p : Option Addr) (r2_n : Nat) (r2_c : Nat), Loads P 32 ⟨r_1, 0, none⟩ (.agg #[(.string r0), (.bool r1), (.slice r2_p r2_n r2_c)]) wv_6 ∧ R (.agg #[(.string r0), (.bool r1), (.slice r2_p r2_n r2_c)]) wv_6
theorem laws_toMoney_ret {a0 : ByteArray} {a1 : Bool} {a2_p : Option Addr} {a2_n : Nat} {a2_c : Nat} {w : World} {R : Value → World → Prop} (h : laws_toMoney a0 a1 a2_p a2_n a2_c w R) : Ret P 9 [(.agg #[(.string a0), (.bool a1), (.slice a2_p a2_n a2_c)])] w R :=
  Ret.of_fsem Tryz.func9 rfl (Eq.mp (show _ = fsem P Tryz.f9 (fun k => []) _ R w from by kernel_rfl) h)
def laws_eqMoney (a0 : ByteArray) (a1 : Bool) (a2_p : Option Addr) (a2_n : Nat) (a2_c : Nat) (b0 : ByteArray) (b1 : Bool) (b2_p : Option Addr) (b2_n : Nat) (b2_c : Nat) (w : World) (R : Value → World → Prop) : Prop :=
 ∀ (r : Nat) (wv : World), New w (.cells ⟨[(.string a0), (.bool a1), (.slice a2_p a2_n a2_c)]⟩ 32 (0, 0)) r wv →
 ∀ (r_1 : Nat) (wv_1 : World), New wv (.cells ⟨[(.string b0), (.bool b1), (.slice b2_p b2_n b2_c)]⟩ 32 (0, 0)) r_1 wv_1 →
 ∃ (t6 : ByteArray), Loads P 9 ((⟨r, 0, none⟩ : Addr).add 0) (.string t6) wv_1 ∧ ∃ (t8 : ByteArray), Loads P 9 ((⟨r_1, 0, none⟩ : Addr).add 0) (.string t8) wv_1 ∧ ((decide (t6 ≠ t8)) = true →
 R (.bool false) wv_1) ∧
 ((decide (t6 ≠ t8)) = false →
 ∃ (t110 : Bool) (t111_p : Option Addr) (t111_n : Nat) (t111_c : Nat), Loads P 30 ((⟨r, 0, none⟩ : Addr).add 1) (.agg #[(.bool t110), (.slice t111_p t111_n t111_c)]) wv_1 ∧ ∃ (t130 : Bool) (t131_p : Option Addr) (t131_n : Nat) (t131_c : Nat), Loads P 30 ((⟨r_1, 0, none⟩ : Addr).add 1) (.agg #[(.bool t130), (.slice t131_p t131_n t131_c)]) wv_1 ∧ Calls P 31 ⟨[(.agg #[(.bool t110), (.slice t111_p t111_n t111_c)]), (.agg #[(.bool t130), (.slice t131_p t131_n t131_c)])]⟩ wv_1 fun e wv_2 =>
 ∃ (t14 : Bool), e = .returned (.bool t14) ∧
 ((!t14) = true →
 R (.bool false) wv_2) ∧
 ((!t14) = false →
 R (.bool true) wv_2))
theorem laws_eqMoney_ret {a0 : ByteArray} {a1 : Bool} {a2_p : Option Addr} {a2_n : Nat} {a2_c : Nat} {b0 : ByteArray} {b1 : Bool} {b2_p : Option Addr} {b2_n : Nat} {b2_c : Nat} {w : World} {R : Value → World → Prop} (h : laws_eqMoney a0 a1 a2_p a2_n a2_c b0 b1 b2_p b2_n b2_c w R) : Ret P 11 [(.agg #[(.string a0), (.bool a1), (.slice a2_p a2_n a2_c)]), (.agg #[(.string b0), (.bool b1), (.slice b2_p b2_n b2_c)])] w R :=
  Ret.of_fsem Tryz.func11 rfl (Eq.mp (show _ = fsem P Tryz.f11 (fun k => []) _ R w from by kernel_rfl) h)
def laws_eqStepS (a_p : Option Addr) (a_n : Nat) (a_c : Nat) (b_p : Option Addr) (b_n : Nat) (b_c : Nat) (w : World) (R : Value → World → Prop) : Prop :=
 ((decide ((((a_n : Nat) : Int) : Int) ≠ ((b_n : Nat) : Int))) = true →
 R (.bool false) w) ∧
 ((decide ((((a_n : Nat) : Int) : Int) ≠ ((b_n : Nat) : Int))) = false →
 ∃ (Inv : Int → World → Prop) (mu : Int → World → Nat), Inv 0 w ∧
 ∀ (junk : Fr) (wv : World) (i : Int), Inv i wv →
 ((decide ((i : Int) < ((a_n : Nat) : Int))) = true →
 (0 ≤ (i : Int) ∧ (i : Int) < (a_n : Nat)) ∧ ptrS a_p fun ad => ∃ (t200 : Int) (t201 : Bool) (t202_p : Option Addr) (t202_n : Nat) (t202_c : Nat) (t203 : Int), (∀ wv_1, Ext wv.drew wv_1 → Loads P 62 (ad.add (i.toNat * 4)) (.agg #[(.int .i64 t200), (.bool t201), (.slice t202_p t202_n t202_c), (.int .i64 t203)]) wv_1) ∧ (0 ≤ (i : Int) ∧ (i : Int) < (b_n : Nat)) ∧ ptrS b_p fun ad_1 => ∃ (t240 : Int) (t241 : Bool) (t242_p : Option Addr) (t242_n : Nat) (t242_c : Nat) (t243 : Int), (∀ wv_2, Ext wv.drew wv_2 → Loads P 62 (ad_1.add (i.toNat * 4)) (.agg #[(.int .i64 t240), (.bool t241), (.slice t242_p t242_n t242_c), (.int .i64 t243)]) wv_2) ∧ Calls P 33 ⟨[(.agg #[(.int .i64 t200), (.bool t201), (.slice t202_p t202_n t202_c), (.int .i64 t203)]), (.agg #[(.int .i64 t240), (.bool t241), (.slice t242_p t242_n t242_c), (.int .i64 t243)])]⟩ wv.drew fun e wv_3 =>
 ∃ (t25 : Bool), e = .returned (.bool t25) ∧
 ((!t25) = true →
 R (.bool false) wv_3) ∧
 ((!t25) = false →
 ∃ t16 : Int, t16 = IntKind.wrap .i64 (i + 1) ∧ Inv t16 wv_3 ∧ mu t16 wv_3 < mu i wv)) ∧
 ((decide ((i : Int) < ((a_n : Nat) : Int))) = false →
 R (.bool true) wv))
theorem laws_eqStepS_ret {a_p : Option Addr} {a_n : Nat} {a_c : Nat} {b_p : Option Addr} {b_n : Nat} {b_c : Nat} {w : World} {R : Value → World → Prop} (h : laws_eqStepS a_p a_n a_c b_p b_n b_c w R) : Ret P 13 [(.slice a_p a_n a_c), (.slice b_p b_n b_c)] w R :=
  Ret.of_fsem Tryz.func13 rfl (Eq.mp (show _ = fsem P Tryz.f13 (fun k => cond (Nat.beq k 5) [(5, .one (.int .i64))] ([])) _ R w from by kernel_rfl) h)
def laws_markStepS (a_p : Option Addr) (a_n : Nat) (a_c : Nat) (k : Int) (w : World) (R : Value → World → Prop) : Prop :=
 ∃ (Inv : Int → Int → World → Prop) (mu : Int → Int → World → Nat), Inv k 0 w ∧
 ∀ (junk : Fr) (wv : World) (k_1 : Int) (i : Int), Inv k_1 i wv →
 ((decide ((i : Int) < ((a_n : Nat) : Int))) = true →
 (0 ≤ (i : Int) ∧ (i : Int) < (a_n : Nat)) ∧ ptrS a_p fun ad => ∃ wv_1, Stores P 3 ((ad.add (i.toNat * 4)).add 0) (.int .i64 k_1) wv wv_1 ∧
 ∃ t18 : Int, t18 = IntKind.wrap .i64 (k_1 + 1) ∧ (3 : Int) ≠ 0 ∧ ∃ t22 : Int, t22 = Int.tmod t18 3 ∧ (0 ≤ (i : Int) ∧ (i : Int) < (a_n : Nat)) ∧ ptrS a_p fun ad_1 => ∃ wv_2, Stores P 4 ((((ad_1.add (i.toNat * 4)).add 1).add 0).add 0) (.bool (decide ((t22 : Int) = 0))) wv_1 wv_2 ∧
 ∃ t29 : Int, t29 = IntKind.wrap .i64 (t18 + 1) ∧ (0 ≤ (i : Int) ∧ (i : Int) < (a_n : Nat)) ∧ ptrS a_p fun ad_2 => ∃ (t36_p : Option Addr) (t36_n : Nat) (t36_c : Nat), Loads P 23 ((((ad_2.add (i.toNat * 4)).add 1).add 0).add 1) (.slice t36_p t36_n t36_c) wv_2 ∧ Calls P 34 ⟨[(.slice t36_p t36_n t36_c), (.int .i64 t29)]⟩ wv_2 fun e wv_3 =>
 ∃ (t38 : Int), e = .returned (.int .i64 t38) ∧
 (0 ≤ (i : Int) ∧ (i : Int) < (a_n : Nat)) ∧ ptrS a_p fun ad_3 => ∃ wv_4, Stores P 3 (((ad_3.add (i.toNat * 4)).add 1).add 2) (.int .i64 t38) wv_3 wv_4 ∧
 ∃ t46 : Int, t46 = IntKind.wrap .i64 (t38 + 1) ∧ ∃ t11 : Int, t11 = IntKind.wrap .i64 (i + 1) ∧ Inv t46 t11 wv_4 ∧ mu t46 t11 wv_4 < mu k_1 i wv) ∧
 ((decide ((i : Int) < ((a_n : Nat) : Int))) = false →
 R (.int .i64 k_1) wv)
theorem laws_markStepS_ret {a_p : Option Addr} {a_n : Nat} {a_c : Nat} {k : Int} {w : World} {R : Value → World → Prop} (h : laws_markStepS a_p a_n a_c k w R) : Ret P 14 [(.slice a_p a_n a_c), (.int .i64 k)] w R :=
  Ret.of_fsem Tryz.func14 rfl (Eq.mp (show _ = fsem P Tryz.f14 (fun k => cond (Nat.beq k 3) [(1, .one (.int .i64)), (5, .one (.int .i64))] ([])) _ R w from by kernel_rfl) h)
def laws_markMoney (a0 : ByteArray) (a1 : Bool) (a2_p : Option Addr) (a2_n : Nat) (a2_c : Nat) (k : Int) (w : World) (R : Value → World → Prop) : Prop :=
 ∀ (r : Nat) (wv : World), New w (.cells ⟨[(.string a0), (.bool a1), (.slice a2_p a2_n a2_c)]⟩ 32 (0, 0)) r wv →
 ∃ (t60 : Bool) (t61_p : Option Addr) (t61_n : Nat) (t61_c : Nat), Loads P 30 ((⟨r, 0, none⟩ : Addr).add 1) (.agg #[(.bool t60), (.slice t61_p t61_n t61_c)]) wv ∧ Calls P 35 ⟨[(.agg #[(.bool t60), (.slice t61_p t61_n t61_c)]), (.int .i64 k)]⟩ wv fun e wv_1 =>
 ∃ (t8 : Int), e = .returned (.int .i64 t8) ∧
 R (.int .i64 t8) wv_1
theorem laws_markMoney_ret {a0 : ByteArray} {a1 : Bool} {a2_p : Option Addr} {a2_n : Nat} {a2_c : Nat} {k : Int} {w : World} {R : Value → World → Prop} (h : laws_markMoney a0 a1 a2_p a2_n a2_c k w R) : Ret P 15 [(.agg #[(.string a0), (.bool a1), (.slice a2_p a2_n a2_c)]), (.int .i64 k)] w R :=
  Ret.of_fsem Tryz.func15 rfl (Eq.mp (show _ = fsem P Tryz.f15 (fun k => []) _ R w from by kernel_rfl) h)
def laws_heldMoney (a0 : ByteArray) (a1 : Bool) (a2_p : Option Addr) (a2_n : Nat) (a2_c : Nat) (k : Int) (w : World) (R : Value → World → Prop) : Prop :=
 ∀ (r : Nat) (wv : World), New w (.cells ⟨[(.string a0), (.bool a1), (.slice a2_p a2_n a2_c)]⟩ 32 (0, 0)) r wv →
 ∃ (t60 : Bool) (t61_p : Option Addr) (t61_n : Nat) (t61_c : Nat), Loads P 30 ((⟨r, 0, none⟩ : Addr).add 1) (.agg #[(.bool t60), (.slice t61_p t61_n t61_c)]) wv ∧ Calls P 36 ⟨[(.agg #[(.bool t60), (.slice t61_p t61_n t61_c)]), (.int .i64 k)]⟩ wv fun e wv_1 =>
 ∃ (t8 : Int), e = .returned (.int .i64 t8) ∧
 ((decide ((t8 : Int) < 0)) = true →
 R (.int .i64 (-1)) wv_1) ∧
 ((decide ((t8 : Int) < 0)) = false →
 R (.int .i64 t8) wv_1)
theorem laws_heldMoney_ret {a0 : ByteArray} {a1 : Bool} {a2_p : Option Addr} {a2_n : Nat} {a2_c : Nat} {k : Int} {w : World} {R : Value → World → Prop} (h : laws_heldMoney a0 a1 a2_p a2_n a2_c k w R) : Ret P 17 [(.agg #[(.string a0), (.bool a1), (.slice a2_p a2_n a2_c)]), (.int .i64 k)] w R :=
  Ret.of_fsem Tryz.func17 rfl (Eq.mp (show _ = fsem P Tryz.f17 (fun k => []) _ R w from by kernel_rfl) h)
def laws_szStep (a0 : Int) (a1 : Bool) (a2_p : Option Addr) (a2_n : Nat) (a2_c : Nat) (a3 : Int) (left : Int) (w : World) (R : Value → World → Prop) : Prop :=
 ∀ (r : Nat) (wv : World), New w (.cells ⟨[(.int .i64 a0), (.bool a1), (.slice a2_p a2_n a2_c), (.int .i64 a3)]⟩ 53 (0, 0)) r wv →
 ∃ (t60 : Bool) (t61_p : Option Addr) (t61_n : Nat) (t61_c : Nat) (t62 : Int), Loads P 51 ((⟨r, 0, none⟩ : Addr).add 1) (.agg #[(.bool t60), (.slice t61_p t61_n t61_c), (.int .i64 t62)]) wv ∧ Calls P 40 ⟨[(.agg #[(.bool t60), (.slice t61_p t61_n t61_c), (.int .i64 t62)]), (.int .i64 left)]⟩ wv fun e wv_1 =>
 ∃ (t8 : Int), e = .returned (.int .i64 t8) ∧
 ((decide ((t8 : Int) < 0)) = true →
 R (.int .i64 (-1)) wv_1) ∧
 ((decide ((t8 : Int) < 0)) = false →
 R (.int .i64 t8) wv_1)
theorem laws_szStep_ret {a0 : Int} {a1 : Bool} {a2_p : Option Addr} {a2_n : Nat} {a2_c : Nat} {a3 : Int} {left : Int} {w : World} {R : Value → World → Prop} (h : laws_szStep a0 a1 a2_p a2_n a2_c a3 left w R) : Ret P 21 [(.agg #[(.int .i64 a0), (.bool a1), (.slice a2_p a2_n a2_c), (.int .i64 a3)]), (.int .i64 left)] w R :=
  Ret.of_fsem Tryz.func21 rfl (Eq.mp (show _ = fsem P Tryz.f21 (fun k => []) _ R w from by kernel_rfl) h)
def laws_szSigned (a0 : Bool) (a1_p : Option Addr) (a1_n : Nat) (a1_c : Nat) (left : Int) (w : World) (R : Value → World → Prop) : Prop :=
 ∀ (r : Nat) (wv : World), New w (.cells ⟨[(.bool a0), (.slice a1_p a1_n a1_c)]⟩ 25 (0, 0)) r wv →
 ∃ (t6_p : Option Addr) (t6_n : Nat) (t6_c : Nat), Loads P 23 ((⟨r, 0, none⟩ : Addr).add 1) (.slice t6_p t6_n t6_c) wv ∧ Calls P 41 ⟨[(.slice t6_p t6_n t6_c), (.int .i64 left)]⟩ wv fun e wv_1 =>
 ∃ (t8 : Int), e = .returned (.int .i64 t8) ∧
 ((decide ((t8 : Int) < 0)) = true →
 R (.int .i64 (-1)) wv_1) ∧
 ((decide ((t8 : Int) < 0)) = false →
 R (.int .i64 t8) wv_1)
theorem laws_szSigned_ret {a0 : Bool} {a1_p : Option Addr} {a1_n : Nat} {a1_c : Nat} {left : Int} {w : World} {R : Value → World → Prop} (h : laws_szSigned a0 a1_p a1_n a1_c left w R) : Ret P 22 [(.agg #[(.bool a0), (.slice a1_p a1_n a1_c)]), (.int .i64 left)] w R :=
  Ret.of_fsem Tryz.func22 rfl (Eq.mp (show _ = fsem P Tryz.f22 (fun k => []) _ R w from by kernel_rfl) h)
def laws_toStep (a0 : Int) (a1 : Bool) (a2_p : Option Addr) (a2_n : Nat) (a2_c : Nat) (a3 : Int) (w : World) (R : Value → World → Prop) : Prop :=
 ∀ (r : Nat) (wv : World), New w (.cells ⟨[(.int .i64 a0), (.bool a1), (.slice a2_p a2_n a2_c), (.int .i64 a3)]⟩ 53 (0, 0)) r wv →
 ∀ (r_1 : Nat) (wv_1 : World), New wv (.cells ⟨[(.int .i64 0), (.bool false), (.slice none 0 0), (.int .i64 0)]⟩ 62 (0, 0)) r_1 wv_1 →
 ∀ (r_2 : Nat) (wv_2 : World), New wv_1 (.cells ⟨[(.int .i64 0), (.bool false), (.slice none 0 0), (.int .i64 0)]⟩ 62 (0, 0)) r_2 wv_2 →
 ∃ (t5 : Int), Loads P 3 ((⟨r, 0, none⟩ : Addr).add 0) (.int .i64 t5) wv_2 ∧ ∃ wv_3, Stores P 3 ((⟨r_2, 0, none⟩ : Addr).add 0) (.int .i64 t5) wv_2 wv_3 ∧
 ∃ (t80 : Bool) (t81_p : Option Addr) (t81_n : Nat) (t81_c : Nat) (t82 : Int), Loads P 51 ((⟨r, 0, none⟩ : Addr).add 1) (.agg #[(.bool t80), (.slice t81_p t81_n t81_c), (.int .i64 t82)]) wv_3 ∧ Calls P 56 ⟨[(.agg #[(.bool t80), (.slice t81_p t81_n t81_c), (.int .i64 t82)])]⟩ wv_3 fun e wv_4 =>
 ∃ (t90 : Bool) (t91_p : Option Addr) (t91_n : Nat) (t91_c : Nat) (t92 : Int), e = .returned (.agg #[(.bool t90), (.slice t91_p t91_n t91_c), (.int .i64 t92)]) ∧
 ∃ wv_5, Stores P 60 ((⟨r_2, 0, none⟩ : Addr).add 1) (.agg #[(.bool t90), (.slice t91_p t91_n t91_c), (.int .i64 t92)]) wv_4 wv_5 ∧
 ∃ (t110 : Int) (t111 : Bool) (t112_p : Option Addr) (t112_n : Nat) (t112_c : Nat) (t113 : Int), Loads P 62 ⟨r_2, 0, none⟩ (.agg #[(.int .i64 t110), (.bool t111), (.slice t112_p t112_n t112_c), (.int .i64 t113)]) wv_5 ∧ ∃ wv_6, Stores P 62 ⟨r_1, 0, none⟩ (.agg #[(.int .i64 t110), (.bool t111), (.slice t112_p t112_n t112_c), (.int .i64 t113)]) wv_5 wv_6 ∧
 ∃ (r0 : Int) (r1 : Bool) (r2_p : Option Addr) (r2_n : Nat) (r2_c : Nat) (r3 : Int), Loads P 62 ⟨r_1, 0, none⟩ (.agg #[(.int .i64 r0), (.bool r1), (.slice r2_p r2_n r2_c), (.int .i64 r3)]) wv_6 ∧ R (.agg #[(.int .i64 r0), (.bool r1), (.slice r2_p r2_n r2_c), (.int .i64 r3)]) wv_6
theorem laws_toStep_ret {a0 : Int} {a1 : Bool} {a2_p : Option Addr} {a2_n : Nat} {a2_c : Nat} {a3 : Int} {w : World} {R : Value → World → Prop} (h : laws_toStep a0 a1 a2_p a2_n a2_c a3 w R) : Ret P 26 [(.agg #[(.int .i64 a0), (.bool a1), (.slice a2_p a2_n a2_c), (.int .i64 a3)])] w R :=
  Ret.of_fsem Tryz.func26 rfl (Eq.mp (show _ = fsem P Tryz.f26 (fun k => []) _ R w from by kernel_rfl) h)
def laws_toSigned (a0 : Bool) (a1_p : Option Addr) (a1_n : Nat) (a1_c : Nat) (w : World) (R : Value → World → Prop) : Prop :=
 ∀ (r : Nat) (wv : World), New w (.cells ⟨[(.bool a0), (.slice a1_p a1_n a1_c)]⟩ 25 (0, 0)) r wv →
 ∀ (r_1 : Nat) (wv_1 : World), New wv (.cells ⟨[(.bool false), (.slice none 0 0)]⟩ 30 (0, 0)) r_1 wv_1 →
 ∀ (r_2 : Nat) (wv_2 : World), New wv_1 (.cells ⟨[(.bool false), (.slice none 0 0)]⟩ 30 (0, 0)) r_2 wv_2 →
 ∃ (t5 : Bool), Loads P 4 ((⟨r, 0, none⟩ : Addr).add 0) (.bool t5) wv_2 ∧ ∃ wv_3, Stores P 4 ((⟨r_2, 0, none⟩ : Addr).add 0) (.bool t5) wv_2 wv_3 ∧
 ∃ (t8_p : Option Addr) (t8_n : Nat) (t8_c : Nat), Loads P 23 ((⟨r, 0, none⟩ : Addr).add 1) (.slice t8_p t8_n t8_c) wv_3 ∧ Calls P 57 ⟨[(.slice t8_p t8_n t8_c)]⟩ wv_3 fun e wv_4 =>
 ∃ (t9_p : Option Addr) (t9_n : Nat) (t9_c : Nat), e = .returned (.slice t9_p t9_n t9_c) ∧
 ∃ wv_5, Stores P 23 ((⟨r_2, 0, none⟩ : Addr).add 1) (.slice t9_p t9_n t9_c) wv_4 wv_5 ∧
 ∃ (t110 : Bool) (t111_p : Option Addr) (t111_n : Nat) (t111_c : Nat), Loads P 30 ⟨r_2, 0, none⟩ (.agg #[(.bool t110), (.slice t111_p t111_n t111_c)]) wv_5 ∧ ∃ wv_6, Stores P 30 ⟨r_1, 0, none⟩ (.agg #[(.bool t110), (.slice t111_p t111_n t111_c)]) wv_5 wv_6 ∧
 ∃ (r0 : Bool) (r1_p : Option Addr) (r1_n : Nat) (r1_c : Nat), Loads P 30 ⟨r_1, 0, none⟩ (.agg #[(.bool r0), (.slice r1_p r1_n r1_c)]) wv_6 ∧ R (.agg #[(.bool r0), (.slice r1_p r1_n r1_c)]) wv_6
theorem laws_toSigned_ret {a0 : Bool} {a1_p : Option Addr} {a1_n : Nat} {a1_c : Nat} {w : World} {R : Value → World → Prop} (h : laws_toSigned a0 a1_p a1_n a1_c w R) : Ret P 27 [(.agg #[(.bool a0), (.slice a1_p a1_n a1_c)])] w R :=
  Ret.of_fsem Tryz.func27 rfl (Eq.mp (show _ = fsem P Tryz.f27 (fun k => []) _ R w from by kernel_rfl) h)
def laws_eqSigned (a0 : Bool) (a1_p : Option Addr) (a1_n : Nat) (a1_c : Nat) (b0 : Bool) (b1_p : Option Addr) (b1_n : Nat) (b1_c : Nat) (w : World) (R : Value → World → Prop) : Prop :=
 ∀ (r : Nat) (wv : World), New w (.cells ⟨[(.bool a0), (.slice a1_p a1_n a1_c)]⟩ 30 (0, 0)) r wv →
 ∀ (r_1 : Nat) (wv_1 : World), New wv (.cells ⟨[(.bool b0), (.slice b1_p b1_n b1_c)]⟩ 30 (0, 0)) r_1 wv_1 →
 ∃ (t6 : Bool), Loads P 4 ((⟨r, 0, none⟩ : Addr).add 0) (.bool t6) wv_1 ∧ ∃ (t8 : Bool), Loads P 4 ((⟨r_1, 0, none⟩ : Addr).add 0) (.bool t8) wv_1 ∧ ((!(t6 == t8)) = true →
 R (.bool false) wv_1) ∧
 ((!(t6 == t8)) = false →
 ∃ (t11_p : Option Addr) (t11_n : Nat) (t11_c : Nat), Loads P 23 ((⟨r, 0, none⟩ : Addr).add 1) (.slice t11_p t11_n t11_c) wv_1 ∧ ∃ (t13_p : Option Addr) (t13_n : Nat) (t13_c : Nat), Loads P 23 ((⟨r_1, 0, none⟩ : Addr).add 1) (.slice t13_p t13_n t13_c) wv_1 ∧ Calls P 32 ⟨[(.slice t11_p t11_n t11_c), (.slice t13_p t13_n t13_c)]⟩ wv_1 fun e wv_2 =>
 ∃ (t14 : Bool), e = .returned (.bool t14) ∧
 ((!t14) = true →
 R (.bool false) wv_2) ∧
 ((!t14) = false →
 R (.bool true) wv_2))
theorem laws_eqSigned_ret {a0 : Bool} {a1_p : Option Addr} {a1_n : Nat} {a1_c : Nat} {b0 : Bool} {b1_p : Option Addr} {b1_n : Nat} {b1_c : Nat} {w : World} {R : Value → World → Prop} (h : laws_eqSigned a0 a1_p a1_n a1_c b0 b1_p b1_n b1_c w R) : Ret P 31 [(.agg #[(.bool a0), (.slice a1_p a1_n a1_c)]), (.agg #[(.bool b0), (.slice b1_p b1_n b1_c)])] w R :=
  Ret.of_fsem Tryz.func31 rfl (Eq.mp (show _ = fsem P Tryz.f31 (fun k => []) _ R w from by kernel_rfl) h)
def laws_eqIntS (a_p : Option Addr) (a_n : Nat) (a_c : Nat) (b_p : Option Addr) (b_n : Nat) (b_c : Nat) (w : World) (R : Value → World → Prop) : Prop :=
 ((decide ((((a_n : Nat) : Int) : Int) ≠ ((b_n : Nat) : Int))) = true →
 R (.bool false) w) ∧
 ((decide ((((a_n : Nat) : Int) : Int) ≠ ((b_n : Nat) : Int))) = false →
 ∃ (Inv : Int → World → Prop) (mu : Int → World → Nat), Inv 0 w ∧
 ∀ (junk : Fr) (wv : World) (i : Int), Inv i wv →
 ((decide ((i : Int) < ((a_n : Nat) : Int))) = true →
 (0 ≤ (i : Int) ∧ (i : Int) < (a_n : Nat)) ∧ ptrS a_p fun ad => ∃ (t20 : Int), (∀ wv_1, Ext wv.drew wv_1 → Loads P 3 (ad.add (i.toNat * 1)) (.int .i64 t20) wv_1) ∧ (0 ≤ (i : Int) ∧ (i : Int) < (b_n : Nat)) ∧ ptrS b_p fun ad_1 => ∃ (t24 : Int), (∀ wv_2, Ext wv.drew wv_2 → Loads P 3 (ad_1.add (i.toNat * 1)) (.int .i64 t24) wv_2) ∧ ((decide ((t20 : Int) ≠ t24)) = true →
 R (.bool false) wv.drew) ∧
 ((decide ((t20 : Int) ≠ t24)) = false →
 ∃ t16 : Int, t16 = IntKind.wrap .i64 (i + 1) ∧ Inv t16 wv.drew ∧ mu t16 wv.drew < mu i wv)) ∧
 ((decide ((i : Int) < ((a_n : Nat) : Int))) = false →
 R (.bool true) wv))
theorem laws_eqIntS_ret {a_p : Option Addr} {a_n : Nat} {a_c : Nat} {b_p : Option Addr} {b_n : Nat} {b_c : Nat} {w : World} {R : Value → World → Prop} (h : laws_eqIntS a_p a_n a_c b_p b_n b_c w R) : Ret P 32 [(.slice a_p a_n a_c), (.slice b_p b_n b_c)] w R :=
  Ret.of_fsem Tryz.func32 rfl (Eq.mp (show _ = fsem P Tryz.f32 (fun k => cond (Nat.beq k 5) [(5, .one (.int .i64))] ([])) _ R w from by kernel_rfl) h)
def laws_eqStep (a0 : Int) (a1 : Bool) (a2_p : Option Addr) (a2_n : Nat) (a2_c : Nat) (a3 : Int) (b0 : Int) (b1 : Bool) (b2_p : Option Addr) (b2_n : Nat) (b2_c : Nat) (b3 : Int) (w : World) (R : Value → World → Prop) : Prop :=
 ∀ (r : Nat) (wv : World), New w (.cells ⟨[(.int .i64 a0), (.bool a1), (.slice a2_p a2_n a2_c), (.int .i64 a3)]⟩ 62 (0, 0)) r wv →
 ∀ (r_1 : Nat) (wv_1 : World), New wv (.cells ⟨[(.int .i64 b0), (.bool b1), (.slice b2_p b2_n b2_c), (.int .i64 b3)]⟩ 62 (0, 0)) r_1 wv_1 →
 ∃ (t6 : Int), Loads P 3 ((⟨r, 0, none⟩ : Addr).add 0) (.int .i64 t6) wv_1 ∧ ∃ (t8 : Int), Loads P 3 ((⟨r_1, 0, none⟩ : Addr).add 0) (.int .i64 t8) wv_1 ∧ ((decide ((t6 : Int) ≠ t8)) = true →
 R (.bool false) wv_1) ∧
 ((decide ((t6 : Int) ≠ t8)) = false →
 ∃ (t110 : Bool) (t111_p : Option Addr) (t111_n : Nat) (t111_c : Nat) (t112 : Int), Loads P 60 ((⟨r, 0, none⟩ : Addr).add 1) (.agg #[(.bool t110), (.slice t111_p t111_n t111_c), (.int .i64 t112)]) wv_1 ∧ ∃ (t130 : Bool) (t131_p : Option Addr) (t131_n : Nat) (t131_c : Nat) (t132 : Int), Loads P 60 ((⟨r_1, 0, none⟩ : Addr).add 1) (.agg #[(.bool t130), (.slice t131_p t131_n t131_c), (.int .i64 t132)]) wv_1 ∧ Calls P 71 ⟨[(.agg #[(.bool t110), (.slice t111_p t111_n t111_c), (.int .i64 t112)]), (.agg #[(.bool t130), (.slice t131_p t131_n t131_c), (.int .i64 t132)])]⟩ wv_1 fun e wv_2 =>
 ∃ (t14 : Bool), e = .returned (.bool t14) ∧
 ((!t14) = true →
 R (.bool false) wv_2) ∧
 ((!t14) = false →
 R (.bool true) wv_2))
theorem laws_eqStep_ret {a0 : Int} {a1 : Bool} {a2_p : Option Addr} {a2_n : Nat} {a2_c : Nat} {a3 : Int} {b0 : Int} {b1 : Bool} {b2_p : Option Addr} {b2_n : Nat} {b2_c : Nat} {b3 : Int} {w : World} {R : Value → World → Prop} (h : laws_eqStep a0 a1 a2_p a2_n a2_c a3 b0 b1 b2_p b2_n b2_c b3 w R) : Ret P 33 [(.agg #[(.int .i64 a0), (.bool a1), (.slice a2_p a2_n a2_c), (.int .i64 a3)]), (.agg #[(.int .i64 b0), (.bool b1), (.slice b2_p b2_n b2_c), (.int .i64 b3)])] w R :=
  Ret.of_fsem Tryz.func33 rfl (Eq.mp (show _ = fsem P Tryz.f33 (fun k => []) _ R w from by kernel_rfl) h)
def laws_markIntS (a_p : Option Addr) (a_n : Nat) (a_c : Nat) (k : Int) (w : World) (R : Value → World → Prop) : Prop :=
 ∃ (Inv : Int → Int → World → Prop) (mu : Int → Int → World → Nat), Inv k 0 w ∧
 ∀ (junk : Fr) (wv : World) (k_1 : Int) (i : Int), Inv k_1 i wv →
 ((decide ((i : Int) < ((a_n : Nat) : Int))) = true →
 (0 ≤ (i : Int) ∧ (i : Int) < (a_n : Nat)) ∧ ptrS a_p fun ad => ∃ wv_1, Stores P 3 (ad.add (i.toNat * 1)) (.int .i64 k_1) wv wv_1 ∧
 ∃ t17 : Int, t17 = IntKind.wrap .i64 (k_1 + 1) ∧ ∃ t11 : Int, t11 = IntKind.wrap .i64 (i + 1) ∧ Inv t17 t11 wv_1 ∧ mu t17 t11 wv_1 < mu k_1 i wv) ∧
 ((decide ((i : Int) < ((a_n : Nat) : Int))) = false →
 R (.int .i64 k_1) wv)
theorem laws_markIntS_ret {a_p : Option Addr} {a_n : Nat} {a_c : Nat} {k : Int} {w : World} {R : Value → World → Prop} (h : laws_markIntS a_p a_n a_c k w R) : Ret P 34 [(.slice a_p a_n a_c), (.int .i64 k)] w R :=
  Ret.of_fsem Tryz.func34 rfl (Eq.mp (show _ = fsem P Tryz.f34 (fun k => cond (Nat.beq k 3) [(1, .one (.int .i64)), (5, .one (.int .i64))] ([])) _ R w from by kernel_rfl) h)
def laws_markSigned (a0 : Bool) (a1_p : Option Addr) (a1_n : Nat) (a1_c : Nat) (k : Int) (w : World) (R : Value → World → Prop) : Prop :=
 ∀ (r : Nat) (wv : World), New w (.cells ⟨[(.bool a0), (.slice a1_p a1_n a1_c)]⟩ 30 (0, 0)) r wv →
 ∃ (t6_p : Option Addr) (t6_n : Nat) (t6_c : Nat), Loads P 23 ((⟨r, 0, none⟩ : Addr).add 1) (.slice t6_p t6_n t6_c) wv ∧ Calls P 34 ⟨[(.slice t6_p t6_n t6_c), (.int .i64 k)]⟩ wv fun e wv_1 =>
 ∃ (t8 : Int), e = .returned (.int .i64 t8) ∧
 R (.int .i64 t8) wv_1
theorem laws_markSigned_ret {a0 : Bool} {a1_p : Option Addr} {a1_n : Nat} {a1_c : Nat} {k : Int} {w : World} {R : Value → World → Prop} (h : laws_markSigned a0 a1_p a1_n a1_c k w R) : Ret P 35 [(.agg #[(.bool a0), (.slice a1_p a1_n a1_c)]), (.int .i64 k)] w R :=
  Ret.of_fsem Tryz.func35 rfl (Eq.mp (show _ = fsem P Tryz.f35 (fun k => []) _ R w from by kernel_rfl) h)
def laws_heldSigned (a0 : Bool) (a1_p : Option Addr) (a1_n : Nat) (a1_c : Nat) (k : Int) (w : World) (R : Value → World → Prop) : Prop :=
 ∀ (r : Nat) (wv : World), New w (.cells ⟨[(.bool a0), (.slice a1_p a1_n a1_c)]⟩ 30 (0, 0)) r wv →
 ∃ (t6_p : Option Addr) (t6_n : Nat) (t6_c : Nat), Loads P 23 ((⟨r, 0, none⟩ : Addr).add 1) (.slice t6_p t6_n t6_c) wv ∧ Calls P 37 ⟨[(.slice t6_p t6_n t6_c), (.int .i64 k)]⟩ wv fun e wv_1 =>
 ∃ (t8 : Int), e = .returned (.int .i64 t8) ∧
 ((decide ((t8 : Int) < 0)) = true →
 R (.int .i64 (-1)) wv_1) ∧
 ((decide ((t8 : Int) < 0)) = false →
 R (.int .i64 t8) wv_1)
theorem laws_heldSigned_ret {a0 : Bool} {a1_p : Option Addr} {a1_n : Nat} {a1_c : Nat} {k : Int} {w : World} {R : Value → World → Prop} (h : laws_heldSigned a0 a1_p a1_n a1_c k w R) : Ret P 36 [(.agg #[(.bool a0), (.slice a1_p a1_n a1_c)]), (.int .i64 k)] w R :=
  Ret.of_fsem Tryz.func36 rfl (Eq.mp (show _ = fsem P Tryz.f36 (fun k => []) _ R w from by kernel_rfl) h)
def laws_heldIntS (a_p : Option Addr) (a_n : Nat) (a_c : Nat) (k : Int) (w : World) (R : Value → World → Prop) : Prop :=
 ∃ (Inv : Int → Int → World → Prop) (mu : Int → Int → World → Nat), Inv k 0 w ∧
 ∀ (junk : Fr) (wv : World) (k_1 : Int) (i : Int), Inv k_1 i wv →
 ((decide ((i : Int) < ((a_n : Nat) : Int))) = true →
 (0 ≤ (i : Int) ∧ (i : Int) < (a_n : Nat)) ∧ ptrS a_p fun ad => ∃ (t15 : Int), Loads P 3 (ad.add (i.toNat * 1)) (.int .i64 t15) wv ∧ ((decide ((t15 : Int) ≠ k_1)) = true →
 R (.int .i64 (-1)) wv) ∧
 ((decide ((t15 : Int) ≠ k_1)) = false →
 ∃ t19 : Int, t19 = IntKind.wrap .i64 (k_1 + 1) ∧ ∃ t11 : Int, t11 = IntKind.wrap .i64 (i + 1) ∧ Inv t19 t11 wv ∧ mu t19 t11 wv < mu k_1 i wv)) ∧
 ((decide ((i : Int) < ((a_n : Nat) : Int))) = false →
 R (.int .i64 k_1) wv)
theorem laws_heldIntS_ret {a_p : Option Addr} {a_n : Nat} {a_c : Nat} {k : Int} {w : World} {R : Value → World → Prop} (h : laws_heldIntS a_p a_n a_c k w R) : Ret P 37 [(.slice a_p a_n a_c), (.int .i64 k)] w R :=
  Ret.of_fsem Tryz.func37 rfl (Eq.mp (show _ = fsem P Tryz.f37 (fun k => cond (Nat.beq k 3) [(1, .one (.int .i64)), (5, .one (.int .i64))] ([])) _ R w from by kernel_rfl) h)
def laws_szDec (a0 : Bool) (a1_p : Option Addr) (a1_n : Nat) (a1_c : Nat) (a2 : Int) (left : Int) (w : World) (R : Value → World → Prop) : Prop :=
 ∀ (r : Nat) (wv : World), New w (.cells ⟨[(.bool a0), (.slice a1_p a1_n a1_c), (.int .i64 a2)]⟩ 51 (0, 0)) r wv →
 ∃ (t60 : Bool) (t61_p : Option Addr) (t61_n : Nat) (t61_c : Nat), Loads P 25 ((⟨r, 0, none⟩ : Addr).add 0) (.agg #[(.bool t60), (.slice t61_p t61_n t61_c)]) wv ∧ Calls P 22 ⟨[(.agg #[(.bool t60), (.slice t61_p t61_n t61_c)]), (.int .i64 left)]⟩ wv fun e wv_1 =>
 ∃ (t8 : Int), e = .returned (.int .i64 t8) ∧
 ((decide ((t8 : Int) < 0)) = true →
 R (.int .i64 (-1)) wv_1) ∧
 ((decide ((t8 : Int) < 0)) = false →
 R (.int .i64 t8) wv_1)
theorem laws_szDec_ret {a0 : Bool} {a1_p : Option Addr} {a1_n : Nat} {a1_c : Nat} {a2 : Int} {left : Int} {w : World} {R : Value → World → Prop} (h : laws_szDec a0 a1_p a1_n a1_c a2 left w R) : Ret P 40 [(.agg #[(.bool a0), (.slice a1_p a1_n a1_c), (.int .i64 a2)]), (.int .i64 left)] w R :=
  Ret.of_fsem Tryz.func40 rfl (Eq.mp (show _ = fsem P Tryz.f40 (fun k => []) _ R w from by kernel_rfl) h)
def laws_szIntS (a_p : Option Addr) (a_n : Nat) (a_c : Nat) (left : Int) (w : World) (R : Value → World → Prop) : Prop :=
 ∃ t8 : Int, t8 = IntKind.wrap .i64 (left - ((a_n : Nat) : Int)) ∧ ((decide ((t8 : Int) < 0)) = true →
 R (.int .i64 (-1)) w) ∧
 ((decide ((t8 : Int) < 0)) = false →
 R (.int .i64 t8) w)
theorem laws_szIntS_ret {a_p : Option Addr} {a_n : Nat} {a_c : Nat} {left : Int} {w : World} {R : Value → World → Prop} (h : laws_szIntS a_p a_n a_c left w R) : Ret P 41 [(.slice a_p a_n a_c), (.int .i64 left)] w R :=
  Ret.of_fsem Tryz.func41 rfl (Eq.mp (show _ = fsem P Tryz.f41 (fun k => []) _ R w from by kernel_rfl) h)
def laws_toDec (a0 : Bool) (a1_p : Option Addr) (a1_n : Nat) (a1_c : Nat) (a2 : Int) (w : World) (R : Value → World → Prop) : Prop :=
 ∀ (r : Nat) (wv : World), New w (.cells ⟨[(.bool a0), (.slice a1_p a1_n a1_c), (.int .i64 a2)]⟩ 51 (0, 0)) r wv →
 ∀ (r_1 : Nat) (wv_1 : World), New wv (.cells ⟨[(.bool false), (.slice none 0 0), (.int .i64 0)]⟩ 60 (0, 0)) r_1 wv_1 →
 ∀ (r_2 : Nat) (wv_2 : World), New wv_1 (.cells ⟨[(.bool false), (.slice none 0 0), (.int .i64 0)]⟩ 60 (0, 0)) r_2 wv_2 →
 ∃ (t50 : Bool) (t51_p : Option Addr) (t51_n : Nat) (t51_c : Nat), Loads P 25 ((⟨r, 0, none⟩ : Addr).add 0) (.agg #[(.bool t50), (.slice t51_p t51_n t51_c)]) wv_2 ∧ Calls P 27 ⟨[(.agg #[(.bool t50), (.slice t51_p t51_n t51_c)])]⟩ wv_2 fun e wv_3 =>
 ∃ (t60 : Bool) (t61_p : Option Addr) (t61_n : Nat) (t61_c : Nat), e = .returned (.agg #[(.bool t60), (.slice t61_p t61_n t61_c)]) ∧
 ∃ wv_4, Stores P 30 ((⟨r_2, 0, none⟩ : Addr).add 0) (.agg #[(.bool t60), (.slice t61_p t61_n t61_c)]) wv_3 wv_4 ∧
 ∃ (t9 : Int), Loads P 3 ((⟨r, 0, none⟩ : Addr).add 2) (.int .i64 t9) wv_4 ∧ ∃ wv_5, Stores P 3 ((⟨r_2, 0, none⟩ : Addr).add 2) (.int .i64 t9) wv_4 wv_5 ∧
 ∃ (t110 : Bool) (t111_p : Option Addr) (t111_n : Nat) (t111_c : Nat) (t112 : Int), Loads P 60 ⟨r_2, 0, none⟩ (.agg #[(.bool t110), (.slice t111_p t111_n t111_c), (.int .i64 t112)]) wv_5 ∧ ∃ wv_6, Stores P 60 ⟨r_1, 0, none⟩ (.agg #[(.bool t110), (.slice t111_p t111_n t111_c), (.int .i64 t112)]) wv_5 wv_6 ∧
 ∃ (r0 : Bool) (r1_p : Option Addr) (r1_n : Nat) (r1_c : Nat) (r2 : Int), Loads P 60 ⟨r_1, 0, none⟩ (.agg #[(.bool r0), (.slice r1_p r1_n r1_c), (.int .i64 r2)]) wv_6 ∧ R (.agg #[(.bool r0), (.slice r1_p r1_n r1_c), (.int .i64 r2)]) wv_6
theorem laws_toDec_ret {a0 : Bool} {a1_p : Option Addr} {a1_n : Nat} {a1_c : Nat} {a2 : Int} {w : World} {R : Value → World → Prop} (h : laws_toDec a0 a1_p a1_n a1_c a2 w R) : Ret P 56 [(.agg #[(.bool a0), (.slice a1_p a1_n a1_c), (.int .i64 a2)])] w R :=
  Ret.of_fsem Tryz.func56 rfl (Eq.mp (show _ = fsem P Tryz.f56 (fun k => []) _ R w from by kernel_rfl) h)
def laws_toIntS (a_p : Option Addr) (a_n : Nat) (a_c : Nat) (w : World) (R : Value → World → Prop) : Prop :=
 (0 ≤ (((a_n : Nat) : Int) : Int) ∧ (((a_n : Nat) : Int) : Int) ≤ ((a_n : Nat) : Int) ∧ ((8 : Nat) : Int) * ((a_n : Nat) : Int) ≤ 281474976710656) ∧
 ∀ (r : Nat) (wv : World), New w (.cells ⟨zeroRow (.int .i64 0) (a_n * 1)⟩ 3 (0, 0)) r wv →
 ∃ (Inv : Int → World → Prop) (mu : Int → World → Nat), Inv 0 wv ∧
 ∀ (junk : Fr) (wv_1 : World) (i : Int), Inv i wv_1 →
 ((decide ((i : Int) < ((a_n : Nat) : Int))) = true →
 (0 ≤ (i : Int) ∧ (i : Int) < (a_n : Nat)) ∧ ptrS a_p fun ad => ∃ (t19 : Int), Loads P 3 (ad.add (i.toNat * 1)) (.int .i64 t19) wv_1 ∧ (0 ≤ (i : Int) ∧ (i : Int) < (a_n : Nat)) ∧ ∃ wv_2, Stores P 3 ((⟨r, 0, none⟩ : Addr).add (i.toNat * 1)) (.int .i64 t19) wv_1 wv_2 ∧
 ∃ t13 : Int, t13 = IntKind.wrap .i64 (i + 1) ∧ Inv t13 wv_2 ∧ mu t13 wv_2 < mu i wv_1) ∧
 ((decide ((i : Int) < ((a_n : Nat) : Int))) = false →
 R (.slice (some ⟨r, 0, none⟩) a_n a_n) wv_1)
theorem laws_toIntS_ret {a_p : Option Addr} {a_n : Nat} {a_c : Nat} {w : World} {R : Value → World → Prop} (h : laws_toIntS a_p a_n a_c w R) : Ret P 57 [(.slice a_p a_n a_c)] w R :=
  Ret.of_fsem Tryz.func57 rfl (Eq.mp (show _ = fsem P Tryz.f57 (fun k => cond (Nat.beq k 4) [(4, .one (.int .i64))] ([])) _ R w from by kernel_rfl) h)
def laws_eqDec (a0 : Bool) (a1_p : Option Addr) (a1_n : Nat) (a1_c : Nat) (a2 : Int) (b0 : Bool) (b1_p : Option Addr) (b1_n : Nat) (b1_c : Nat) (b2 : Int) (w : World) (R : Value → World → Prop) : Prop :=
 ∀ (r : Nat) (wv : World), New w (.cells ⟨[(.bool a0), (.slice a1_p a1_n a1_c), (.int .i64 a2)]⟩ 60 (0, 0)) r wv →
 ∀ (r_1 : Nat) (wv_1 : World), New wv (.cells ⟨[(.bool b0), (.slice b1_p b1_n b1_c), (.int .i64 b2)]⟩ 60 (0, 0)) r_1 wv_1 →
 ∃ (t60 : Bool) (t61_p : Option Addr) (t61_n : Nat) (t61_c : Nat), Loads P 30 ((⟨r, 0, none⟩ : Addr).add 0) (.agg #[(.bool t60), (.slice t61_p t61_n t61_c)]) wv_1 ∧ ∃ (t80 : Bool) (t81_p : Option Addr) (t81_n : Nat) (t81_c : Nat), Loads P 30 ((⟨r_1, 0, none⟩ : Addr).add 0) (.agg #[(.bool t80), (.slice t81_p t81_n t81_c)]) wv_1 ∧ Calls P 31 ⟨[(.agg #[(.bool t60), (.slice t61_p t61_n t61_c)]), (.agg #[(.bool t80), (.slice t81_p t81_n t81_c)])]⟩ wv_1 fun e wv_2 =>
 ∃ (t9 : Bool), e = .returned (.bool t9) ∧
 ((!t9) = true →
 R (.bool false) wv_2) ∧
 ((!t9) = false →
 ∃ (t12 : Int), Loads P 3 ((⟨r, 0, none⟩ : Addr).add 2) (.int .i64 t12) wv_2 ∧ ∃ (t14 : Int), Loads P 3 ((⟨r_1, 0, none⟩ : Addr).add 2) (.int .i64 t14) wv_2 ∧ ((decide ((t12 : Int) ≠ t14)) = true →
 R (.bool false) wv_2) ∧
 ((decide ((t12 : Int) ≠ t14)) = false →
 R (.bool true) wv_2))
theorem laws_eqDec_ret {a0 : Bool} {a1_p : Option Addr} {a1_n : Nat} {a1_c : Nat} {a2 : Int} {b0 : Bool} {b1_p : Option Addr} {b1_n : Nat} {b1_c : Nat} {b2 : Int} {w : World} {R : Value → World → Prop} (h : laws_eqDec a0 a1_p a1_n a1_c a2 b0 b1_p b1_n b1_c b2 w R) : Ret P 71 [(.agg #[(.bool a0), (.slice a1_p a1_n a1_c), (.int .i64 a2)]), (.agg #[(.bool b0), (.slice b1_p b1_n b1_c), (.int .i64 b2)])] w R :=
  Ret.of_fsem Tryz.func71 rfl (Eq.mp (show _ = fsem P Tryz.f71 (fun k => []) _ R w from by kernel_rfl) h)
end Go.Proofs.YtmajiilehdpdmaaGreatDoor

namespace Go.Proofs.YtmajiilehdpdmaaGreatDoor.Sx
open Go Go.RowKit
set_option linter.unusedVariables false
set_option linter.unusedSimpArgs false
theorem Ext.le {a b : World} (h : Ext a b) : a.heap.size ≤ b.heap.size := h.size
def Seg (w : World) (b off : Nat) (cs : List Value) : Prop := ∀ j v, cs[j]? = some v → w.cell? ⟨b, off + j, none⟩ = some v
theorem Seg.nil {w : World} {b off : Nat} : Seg w b off [] := fun j v h => by simp at h
theorem Seg.drop {w : World} {b off : Nat} {cs : List Value} (h : Seg w b off cs) (k : Nat) : Seg w b (off + k) (cs.drop k) := fun j v hj => by
  rw [List.getElem?_drop] at hj
  have := h _ _ hj
  rwa [Nat.add_assoc]
theorem Seg.take {w : World} {b off : Nat} {cs : List Value} (h : Seg w b off cs) (k : Nat) : Seg w b off (cs.take k) := fun j v hj => by
  rw [List.getElem?_take] at hj
  split at hj
  · exact h _ _ hj
  · cases hj
theorem Seg.ext {w w' : World} {b off : Nat} {cs : List Value} (h : Seg w b off cs) (he : Ext w w') : Seg w' b off cs := fun j v hj => by
  have h1 := h j v hj
  rw [← h1]
  exact he.cell (World.block_lt_of_cell? w _ h1)
theorem Seg.chg {S : List Nat} {w w' : World} {b off : Nat} {cs : List Value} (h : Seg w b off cs) (he : Chg S w w') (hb : b ∉ S) : Seg w' b off cs := fun j v hj => by
  have h1 := h j v hj
  rw [← h1]
  exact World.cell?_of_block (he.block b (World.block_lt_of_cell? w _ h1) hb)
def Blk (w : World) (b : Nat) (e : TypeId) (xs : List Value) : Prop := w.heap[b]? = some (.cells ⟨xs⟩ e (0, 0))
theorem Blk.lt {w : World} {b : Nat} {e : TypeId} {xs : List Value} (h : Blk w b e xs) : b < w.heap.size := (Array.getElem?_eq_some_iff.1 h).1
theorem Blk.ext {w w' : World} {b : Nat} {e : TypeId} {xs : List Value} (h : Blk w b e xs) (he : Ext w w') : Blk w' b e xs := (he.block b h.lt).trans h
theorem Blk.chg {S : List Nat} {w w' : World} {b : Nat} {e : TypeId} {xs : List Value} (h : Blk w b e xs) (he : Chg S w w') (hb : b ∉ S) : Blk w' b e xs := (he.block b h.lt hb).trans h
theorem Blk.cell {w : World} {b : Nat} {e : TypeId} {xs : List Value} (h : Blk w b e xs) (j : Nat) : w.cell? ⟨b, j, none⟩ = xs[j]? := by
  rw [cell_of_row w b j _ e (0, 0) h]; simp
theorem Blk.seg {w : World} {b : Nat} {e : TypeId} {xs : List Value} (h : Blk w b e xs) : Seg w b 0 xs := fun j v hj => by rw [Nat.zero_add, h.cell, hj]
theorem New.ext {w w' : World} {o : Obj} {r : Nat} (h : New w o r w') : Ext w w' := by
  obtain ⟨rfl, rfl⟩ := h
  exact (Below.refl _ _).alloc (Nat.le_refl _) _
theorem New.size {w w' : World} {o : Obj} {r : Nat} (h : New w o r w') : w'.heap.size = w.heap.size + 1 := by
  obtain ⟨rfl, rfl⟩ := h; simp
theorem New.blk {w w' : World} {xs : List Value} {e : TypeId} {r : Nat} (h : New w (.cells ⟨xs⟩ e (0, 0)) r w') : Blk w' r e xs := by
  obtain ⟨rfl, rfl⟩ := h
  exact heap_alloc_new w _
theorem addr_add (b o k : Nat) : (⟨b, o, none⟩ : Addr).add k = ⟨b, o + k, none⟩ := Addr.add_lit b o k
section
variable {P : Program}
def cellT (P : Program) (t : TypeId) : Bool :=
  match P.underlying t, P.info? t with
  | some (.struct _), _ => false
  | some (.array _ _), _ => false
  | some _, some i => Nat.beq i.size 1
  | _, _ => false
def aggT (P : Program) (t : TypeId) (n : Nat) : Bool :=
  match P.underlying t, P.info? t with
  | some (.struct _), some i => Nat.beq i.size n
  | some (.array _ _), some i => Nat.beq i.size n
  | _, _ => false
theorem cellT_spec {t : TypeId} (h : cellT P t = true) : (∀ w, (isAgg t).run P w = .ok false w) ∧ ∃ i, P.info? t = some i ∧ i.size = 1 := by
  unfold cellT at h
  split at h <;> try cases h
  rename_i d i hs ha hu hi
  refine ⟨fun w => ?_, i, hi, Nat.eq_of_beq_eq_true h⟩
  unfold isAgg
  rw [Sem.run_bind, underlying_run hu w]
  cases d <;> first | rfl | (exact absurd rfl (hs _)) | (exact absurd rfl (ha _ _))
theorem aggT_spec {t : TypeId} {n : Nat} (h : aggT P t n = true) : (∀ w, (isAgg t).run P w = .ok true w) ∧ ∃ i, P.info? t = some i ∧ i.size = n := by
  unfold aggT at h
  split at h
  · rename_i fs i hu hi
    exact ⟨fun w => by unfold isAgg; rw [Sem.run_bind, underlying_run hu w]; rfl, i, hi, Nat.eq_of_beq_eq_true h⟩
  · rename_i k e i hu hi
    exact ⟨fun w => by unfold isAgg; rw [Sem.run_bind, underlying_run hu w]; rfl, i, hi, Nat.eq_of_beq_eq_true h⟩
  · cases h
theorem loads1 {w : World} {t : TypeId} {b o : Nat} {v : Value} (ht : cellT P t = true) (h : w.cell? ⟨b, o, none⟩ = some v) : Loads P t ⟨b, o, none⟩ v w := by
  unfold Loads loadVar
  rw [Sem.run_bind, (cellT_spec ht).1]
  simp [h]
theorem loadsA {w : World} {t : TypeId} {b o : Nat} {cs : List Value} (ht : aggT P t cs.length = true) (h : Seg w b o cs) : Loads P t ⟨b, o, none⟩ (.agg ⟨cs⟩) w := by
  obtain ⟨h1, i, hi, hn⟩ := aggT_spec ht
  unfold Loads loadVar
  rw [Sem.run_bind, h1]
  simp only [Result.andThen_ok, if_true, Sem.run_bind, sizeOf_run hi, hn]
  rw [run_loadCells_list (P := P) w ⟨b, o, none⟩ cs fun j v hv => by rw [addr_add]; exact h j v hv]
  rfl
theorem Seg.load {w : World} {t : TypeId} {b o k : Nat} {cs : List Value} {v : Value} (h : Seg w b o cs) (ht : cellT P t = true) (hx : cs[k]? = some v) : Loads P t ((⟨b, o, none⟩ : Addr).add k) v w := by
  rw [addr_add]; exact loads1 ht (h _ _ hx)
theorem Seg.loadA {w : World} {t : TypeId} {b o k : Nat} {cs xs : List Value} (h : Seg w b o cs) (ht : aggT P t xs.length = true) (hx : (cs.drop k).take xs.length = xs) : Loads P t ((⟨b, o, none⟩ : Addr).add k) (.agg ⟨xs⟩) w := by
  rw [addr_add]
  refine loadsA ht ?_
  have := (h.drop k).take xs.length
  rwa [hx] at this
theorem Blk.load {w : World} {t : TypeId} {b k : Nat} {e : TypeId} {cs : List Value} {v : Value} (h : Blk w b e cs) (ht : cellT P t = true) (hx : cs[k]? = some v) : Loads P t ((⟨b, 0, none⟩ : Addr).add k) v w :=
  h.seg.load ht hx
theorem Blk.loadA {w : World} {t : TypeId} {b k : Nat} {e : TypeId} {cs xs : List Value} (h : Blk w b e cs) (ht : aggT P t xs.length = true) (hx : (cs.drop k).take xs.length = xs) : Loads P t ((⟨b, 0, none⟩ : Addr).add k) (.agg ⟨xs⟩) w :=
  h.seg.loadA ht hx
theorem setRow_chg (w : World) (b : Nat) (cs : Array Value) : Chg [b] w (w.setRow b cs) :=
  ⟨rfl, rfl, rfl, by simp, fun k _ hk => setRow_other w b k _ (by simpa using hk)⟩
theorem Blk.store {w : World} {t : TypeId} {b k : Nat} {e : TypeId} {cs : List Value} {v : Value} (h : Blk w b e cs) (ht : cellT P t = true) (hk : k < cs.length) (hv : v.oneCell' = true) :
    ∃ w', Stores P t ((⟨b, 0, none⟩ : Addr).add k) v w w' ∧ Blk w' b e (cs.set k v) ∧ Chg [b] w w' ∧ w'.heap.size = w.heap.size := by
  obtain ⟨_, i, hi, hn⟩ := cellT_spec ht
  have hc : v.cells = #[v] := by cases v <;> first | rfl | (simp [Value.oneCell'] at hv)
  have hst := run_storeCells_at P b k e [v] 0 ⟨cs⟩ w h (by simp only [List.length_cons, List.length_nil]; show k + 0 + 1 ≤ cs.length; omega) (by simpa using hv)
  refine ⟨_, ?_, setRow_heap w b ⟨cs⟩ _ e _ h, setRow_chg _ _ _, by simp⟩
  · unfold Stores storeVar
    rw [addr_add, Nat.zero_add]
    simp only [Sem.run_bind, sizeOf_run hi, Result.andThen_ok, hc, hn, List.size_toArray, List.length_cons, List.length_nil]
    simp only [Nat.zero_add, ne_eq, not_true, if_false, Sem.run_pure, Result.andThen_ok]
    rw [hst]
    congr 3
    simp only [Nat.add_zero, List.length_cons, List.length_nil, Nat.zero_add]
    rw [List.set_eq_take_append_cons_drop]
    simp [hk]
theorem Blk.storeA {w : World} {t : TypeId} {b k : Nat} {e : TypeId} {cs xs : List Value} (h : Blk w b e cs) (ht : aggT P t xs.length = true) (hk : k + xs.length ≤ cs.length) (hv : ∀ v ∈ xs, v.oneCell' = true) :
    ∃ w', Stores P t ((⟨b, 0, none⟩ : Addr).add k) (.agg ⟨xs⟩) w w' ∧ Blk w' b e (cs.take k ++ xs ++ cs.drop (k + xs.length)) ∧ Chg [b] w w' ∧ w'.heap.size = w.heap.size := by
  obtain ⟨_, i, hi, hn⟩ := aggT_spec ht
  have hst := run_storeCells_at P b k e xs 0 ⟨cs⟩ w h (by simpa using hk) hv
  refine ⟨_, ?_, setRow_heap w b ⟨cs⟩ _ e _ h, setRow_chg _ _ _, by simp⟩
  unfold Stores storeVar
  rw [addr_add, Nat.zero_add]
  simp only [Sem.run_bind, sizeOf_run hi, Result.andThen_ok, Value.cells, hn, List.size_toArray]
  simp only [ne_eq, not_true, if_false, Sem.run_pure, Result.andThen_ok]
  rw [hst]
  simp
def sliceT (P : Program) (t e : TypeId) (z : Value) (size bytes : Nat) : Prop :=
 P.underlying t = some (.slice e) ∧ (P.info? e).map (fun i => (i.zero, i.size, i.bytes)) = some (some z, size, bytes) ∧ z.cells.size = size ∧ 0 < size
def Own (w : World) (base : Nat) (e : TypeId) (size : Nat) (p : Option Addr) (n c : Nat) (xs : List Value) : Prop := w.ownsRow base e size (.slice p n c) n xs
theorem Own.nil (w : World) (base : Nat) (e : TypeId) (size : Nat) : Own w base e size none 0 0 [] := World.ownsRow_nil w base e size
theorem Own.ext {w w' : World} {base : Nat} {e : TypeId} {size : Nat} {p : Option Addr} {n c : Nat} {xs : List Value} (h : Own w base e size p n c xs) (he : Ext w w') : Own w' base e size p n c xs :=
  h.kept (row := none) ⟨he.os, he.tape, he.output, he.size, fun k hk _ => he.block k hk⟩ (by cases p <;> simp [Value.ownBlock])
theorem Own.of_blk {w : World} {base : Nat} {e : TypeId} {size : Nat} {r n : Nat} {xs : List Value} (h : Blk w r e xs) (hb : base ≤ r) (hl : xs.length = n * size) (hn : n ≤ maxLen) : Own w base e size (some ⟨r, 0, none⟩) n n xs :=
  ⟨hl, .inr ⟨r, n, ⟨xs⟩, rfl, hb, h, Nat.le_refl _, hn, by simpa using hl, by simp [← hl]⟩⟩
theorem Own.of_blk0 {w : World} {base : Nat} {e : TypeId} {size : Nat} {r n : Nat} {xs : List Value} (h : Blk w r e xs) (hb : base ≤ r) (hl : xs.length = n * size) (hn : n ≤ maxLen) : Own w base e size (some ⟨r, 0, none⟩) 0 n [] :=
  ⟨by simp, .inr ⟨r, n, ⟨xs⟩, rfl, hb, h, Nat.zero_le _, hn, by simpa using hl, by simp⟩⟩
theorem Own.len {w : World} {base : Nat} {e : TypeId} {size : Nat} {p : Option Addr} {n c : Nat} {xs : List Value} (h : Own w base e size p n c xs) : xs.length = n * size := h.1
theorem Own.le {w : World} {base : Nat} {e : TypeId} {size : Nat} {p : Option Addr} {n c : Nat} {xs : List Value} (h : Own w base e size p n c xs) : n ≤ c := by
  rcases h.2 with ⟨h1, h2⟩ | ⟨g, cap, cur, h1, _, _, h3, _⟩
  · omega
  · simp only [Value.slice.injEq] at h1; omega
theorem Own.capLe {w : World} {base : Nat} {e : TypeId} {size : Nat} {p : Option Addr} {n c : Nat} {xs : List Value} (h : Own w base e size p n c xs) : c ≤ 9223372036854775807 := by
  rcases h.2 with ⟨h1, h2⟩ | ⟨g, cap, cur, h1, _, _, h3, h4, _⟩
  · simp only [Value.slice.injEq] at h1; omega
  · simp only [Value.slice.injEq] at h1; simp only [maxLen] at h4; omega
theorem Own.seg {w : World} {base : Nat} {e : TypeId} {size : Nat} {p : Option Addr} {n c : Nat} {xs : List Value} (h : Own w base e size p n c xs) (hn : 0 < n) : ∃ b, p = some ⟨b, 0, none⟩ ∧ base ≤ b ∧ Seg w b 0 xs := by
  rcases h.2 with ⟨h1, h2⟩ | ⟨g, cap, cur, h1, hb, hg, h3, h4, h5, h6⟩
  · omega
  · simp only [Value.slice.injEq] at h1
    refine ⟨g, h1.1, hb, fun j v hj => ?_⟩
    rw [Nat.zero_add, cell_of_row w g j cur e (0, 0) hg]
    rw [← h6, List.getElem?_take] at hj
    split at hj
    · simpa using hj
    · cases hj
theorem Own.mono {w : World} {base base' : Nat} {e : TypeId} {size : Nat} {p : Option Addr} {n c : Nat} {xs : List Value} (h : Own w base e size p n c xs) (hb : base' ≤ base) : Own w base' e size p n c xs := by
  refine ⟨h.1, ?_⟩
  rcases h.2 with h1 | ⟨g, cap, cur, h1, h2, h3⟩
  · exact .inl h1
  · exact .inr ⟨g, cap, cur, h1, Nat.le_trans hb h2, h3⟩
theorem Own.append {w : World} {base : Nat} {t e : TypeId} {z : Value} {size bytes : Nat} {p : Option Addr} {n c r m mc : Nat} {xs news : List Value} (h : Own w base e size p n c xs)
    (hT : sliceT P t e z size bytes) (hb : base ≤ w.heap.size) (hr : Blk w r e news) (hl : news.length = m * size) (h1 : ∀ u ∈ news, u.oneCell' = true)
    (hbytes : (n + m) * bytes ≤ 140737488355328) (hby : 1 ≤ bytes) :
    ∃ p' c' w', Appends P [t, t] [.slice p n c, .slice (some ⟨r, 0, none⟩) m mc] (.slice p' (n + m) c') w w' ∧ Own w' base e size p' (n + m) c' (xs ++ news) ∧
      (∀ w0, Ext w0 w → w0.heap.size ≤ base → Ext w0 w') ∧ (∀ b e' ys, Blk w b e' ys → p.map (·.block) ≠ some b → Blk w' b e' ys) ∧
      (∀ b o ys, Seg w b o ys → p.map (·.block) ≠ some b → Seg w' b o ys) := by
  obtain ⟨hu, hi, hz, hs⟩ := hT
  cases hinf : P.info? e with
  | none => rw [hinf] at hi; cases hi
  | some i =>
    rw [hinf] at hi
    simp only [Option.map_some, Option.some.injEq, Prod.mk.injEq] at hi
    have hnm : n + m ≤ maxLen := by
      have : n + m ≤ (n + m) * bytes := Nat.le_mul_of_pos_right _ hby
      simp only [maxLen]; omega
    obtain ⟨v', w', hrun, hown, hgr, _⟩ := run_append_own (P := P) w base t 0 e i z size bytes hu hinf hi.1 hi.2.1 hi.2.2 hz hs (.slice p n c) n xs h ⟨r, 0, none⟩ m mc news hl
      (fun j u hj => by rw [addr_add, Nat.zero_add, hr.cell, hj]) h1 hnm hbytes hb
    have hlt := h.lt
    have hv : ∃ p' c', v' = .slice p' (n + m) c' := by
      rcases hown.2 with ⟨e1, e2⟩ | ⟨g, cap, cur, e1, _⟩
      · exact ⟨none, 0, by rw [e1, e2]⟩
      · exact ⟨_, _, e1⟩
    obtain ⟨p', c', rfl⟩ := hv
    have hob : (Value.slice p n c).ownBlock = p.map (·.block) := by cases p <;> rfl
    refine ⟨p', c', w', hrun, hown, ?_, ?_, ?_⟩
    · intro w0 hx hb0
      refine hx.chg (S := (p.map (·.block)).toList) ⟨hgr.os, hgr.tape, hgr.output, hgr.size, fun k hk hn => hgr.block k hk ?_⟩ ?_
      · rw [hob]; intro e; rw [← e] at hn; simp at hn
      · intro x hx'
        have := (hlt x (by rw [hob]; cases p <;> simp_all)).1
        omega
    · intro b e' ys hy hne
      exact (hgr.block b hy.lt (by rw [hob]; exact fun e => hne e.symm)).trans hy
    · intro b o ys hy hne j v hj
      have h3 := hy j v hj
      rw [← h3]
      exact World.cell?_of_block (hgr.block b (World.block_lt_of_cell? w _ h3) (by rw [hob]; exact fun e => hne e.symm))
end
def IntsR (w : World) (p : Option Addr) (n c : Nat) (zs : List Int) : Prop :=
 zs.length = n ∧ n ≤ c ∧ c ≤ 9223372036854775807 ∧ (0 < n → ∃ b off, p = some ⟨b, off, none⟩ ∧ Seg w b off (zs.map (Value.int .i64)))
theorem IntsR.ext {w w' : World} {p : Option Addr} {n c : Nat} {zs : List Int} (h : IntsR w p n c zs) (he : Ext w w') : IntsR w' p n c zs :=
  ⟨h.1, h.2.1, h.2.2.1, fun hn => let ⟨b, off, hp, hs⟩ := h.2.2.2 hn; ⟨b, off, hp, hs.ext he⟩⟩
theorem IntsR.chg {S : List Nat} {w w' : World} {p : Option Addr} {n c : Nat} {zs : List Int} (h : IntsR w p n c zs) (he : Chg S w w') (hS : ∀ b, p.map (·.block) = some b → b ∉ S) : IntsR w' p n c zs :=
  ⟨h.1, h.2.1, h.2.2.1, fun hn => let ⟨b, off, hp, hs⟩ := h.2.2.2 hn; ⟨b, off, hp, hs.chg he (hS b (by rw [hp]; rfl))⟩⟩
theorem IntsR.nil (w : World) (p : Option Addr) {c : Nat} (hc : c ≤ 9223372036854775807) : IntsR w p 0 c [] := ⟨rfl, Nat.zero_le _, hc, fun h => absurd h (by omega)⟩
theorem Own.ints {w : World} {base : Nat} {e : TypeId} {p : Option Addr} {n c : Nat} {zs : List Int} (h : Own w base e 1 p n c (zs.map (Value.int .i64))) : IntsR w p n c zs :=
  ⟨by simpa using h.len, h.le, h.capLe, fun hn => let ⟨b, hp, _, hs⟩ := h.seg hn; ⟨b, 0, hp, hs⟩⟩
theorem IntsR.at {P : Program} {w : World} {p : Option Addr} {n c k : Nat} {zs : List Int} (h : IntsR w p n c zs) {t : TypeId} (ht : cellT P t = true) (hk : k < n) :
    ∃ a, p = some a ∧ Loads P t (a.add (k * 1)) (.int .i64 (zs[k]'(by rw [h.1]; exact hk))) w := by
  obtain ⟨b, off, hp, hs⟩ := h.2.2.2 (by omega)
  refine ⟨_, hp, ?_⟩
  rw [Nat.mul_one]
  exact hs.load ht (by simp [List.getElem?_eq_getElem (by rw [h.1]; exact hk : k < zs.length)])
theorem wrap64 {e : Int} (h1 : -9223372036854775808 ≤ e) (h2 : e ≤ 9223372036854775807) : IntKind.wrap .i64 e = e := by
  simp only [IntKind.wrap, IntKind.bits, IntKind.signed]
  by_cases h0 : 0 ≤ e
  · have : e % (2 ^ 64 : Int) = e := Int.emod_eq_of_lt h0 (by omega)
    simp [this]; omega
  · have : e % (2 ^ 64 : Int) = e + 2 ^ 64 := by omega
    simp [this]; omega
theorem exW {e : Int} {Q : Int → Prop} (h : -9223372036854775808 ≤ e ∧ e ≤ 9223372036854775807) (hq : Q e) : ∃ z, z = IntKind.wrap .i64 e ∧ Q z := ⟨e, (wrap64 h.1 h.2).symm, hq⟩
theorem ifD {p : Prop} [Decidable p] {A B : Prop} (ha : p → A) (hb : ¬ p → B) : (decide p = true → A) ∧ (decide p = false → B) :=
  ⟨fun h => ha (of_decide_eq_true h), fun h => hb (of_decide_eq_false h)⟩
theorem ifB {b : Bool} {A B : Prop} (ha : b = true → A) (hb : b = false → B) : (b = true → A) ∧ (b = false → B) := ⟨ha, hb⟩
theorem ifN {b : Bool} {A B : Prop} (ha : b = false → A) (hb : b = true → B) : ((!b) = true → A) ∧ ((!b) = false → B) := ⟨fun h => ha (by simpa using h), fun h => hb (by simpa using h)⟩
theorem ifT {A B : Prop} (ha : A) : (true = true → A) ∧ (true = false → B) := ⟨fun _ => ha, fun h => nomatch h⟩
theorem ifF {A B : Prop} (hb : B) : (false = true → A) ∧ (false = false → B) := ⟨fun h => (nomatch h), fun _ => hb⟩
theorem zeroRow_int (k : IntKind) (z : Int) (n : Nat) : zeroRow (.int k z) n = List.replicate n (.int k z) := by
  unfold zeroRow
  apply List.ext_getElem
  · simp
  · intro i h1 h2
    simp [Value.cells, Nat.mod_one]
end Go.Proofs.YtmajiilehdpdmaaGreatDoor.Sx

namespace Go.Proofs.YtmajiilehdpdmaaGreatDoor
abbrev n_laws_FnExactAfterFee : Nat := 4
abbrev n_laws_szStepS : Nat := 5
abbrev n_laws_szMoney : Nat := 6
abbrev n_spec_Fee : Nat := 7
abbrev n_laws_toStepS : Nat := 8
abbrev n_laws_toMoney : Nat := 9
abbrev n_impl_Fee : Nat := 10
abbrev n_laws_eqMoney : Nat := 11
abbrev n_laws_eqStepS : Nat := 13
abbrev n_laws_markStepS : Nat := 14
abbrev n_laws_markMoney : Nat := 15
abbrev n_laws_heldMoney : Nat := 17
abbrev n_spec_AfterFee : Nat := 19
abbrev n_impl_AfterFee : Nat := 20
abbrev n_laws_szStep : Nat := 21
abbrev n_laws_szSigned : Nat := 22
abbrev n_spec_FeeExact : Nat := 23
abbrev n_spec_MoneyOk : Nat := 24
abbrev n_spec_RatMoney : Nat := 25
abbrev n_laws_toStep : Nat := 26
abbrev n_laws_toSigned : Nat := 27
abbrev n_impl_MoneyOk : Nat := 28
abbrev n_impl_FeeExact : Nat := 29
abbrev n_impl_RatMoney : Nat := 30
abbrev n_laws_eqSigned : Nat := 31
abbrev n_laws_eqIntS : Nat := 32
abbrev n_laws_eqStep : Nat := 33
abbrev n_laws_markIntS : Nat := 34
abbrev n_laws_markSigned : Nat := 35
abbrev n_laws_heldSigned : Nat := 36
abbrev n_laws_heldIntS : Nat := 37
abbrev n_spec_MoneySub : Nat := 38
abbrev n_impl_MoneySub : Nat := 39
abbrev n_laws_szDec : Nat := 40
abbrev n_laws_szIntS : Nat := 41
abbrev n_spec_StepsOk : Nat := 42
abbrev n_spec_IntOk : Nat := 43
abbrev n_spec_RatZero : Nat := 44
abbrev n_spec_IntAbs : Nat := 45
abbrev n_spec_StepAt : Nat := 46
abbrev n_spec_RatInt : Nat := 47
abbrev n_spec_IntSub : Nat := 48
abbrev n_spec_IntOf : Nat := 49
abbrev n_spec_RatMul : Nat := 50
abbrev n_spec_DecRat : Nat := 51
abbrev n_spec_RatAdd : Nat := 52
abbrev n_spec_CurKnown : Nat := 53
abbrev n_spec_RatRest : Nat := 54
abbrev n_spec_l09Make : Nat := 55
abbrev n_laws_toDec : Nat := 56
abbrev n_laws_toIntS : Nat := 57
abbrev n_impl_CurKnown : Nat := 58
abbrev n_impl_IntOk : Nat := 59
abbrev n_impl_StepsOk : Nat := 60
abbrev n_impl_RatZero : Nat := 61
abbrev n_impl_natCmp : Nat := 63
abbrev n_impl_NatOf : Nat := 64
abbrev n_impl_natSub : Nat := 65
abbrev n_impl_RatMul : Nat := 66
abbrev n_impl_DecRat : Nat := 67
abbrev n_impl_RatAdd : Nat := 68
abbrev n_impl_RatRest : Nat := 69
abbrev n_impl_moneyOf : Nat := 70
abbrev n_laws_eqDec : Nat := 71
abbrev n_spec_l09Both : Nat := 72
abbrev n_impl_alike : Nat := 73
abbrev n_impl_intAdd : Nat := 74
abbrev n_impl_intNeg : Nat := 75
abbrev n_spec_l01In : Nat := 76
abbrev n_spec_TaxRateOk : Nat := 77
abbrev n_spec_NatOk : Nat := 78
abbrev n_spec_l04Make : Nat := 79
abbrev n_spec_IntCmp : Nat := 80
abbrev n_spec_RatMake : Nat := 81
abbrev n_spec_l04Add : Nat := 82
abbrev n_spec_IntNeg : Nat := 83
abbrev n_spec_NatOf : Nat := 84
abbrev n_spec_RatOk : Nat := 85
abbrev n_spec_l05Low : Nat := 86
abbrev n_spec_l02Mul : Nat := 87
abbrev n_spec_DecOk : Nat := 88
abbrev n_spec_l07Ten : Nat := 89
abbrev n_spec_l08Find : Nat := 90
abbrev n_spec_RatRound : Nat := 91
abbrev n_spec_RatSub : Nat := 92
abbrev n_impl_currencyOf : Nat := 93
abbrev n_impl_NatOk : Nat := 94
abbrev n_impl_TaxRateOk : Nat := 95
abbrev n_impl_natOf : Nat := 97
abbrev n_impl_trim : Nat := 98
abbrev n_impl_ratsOk : Nat := 99
abbrev n_impl_reduce : Nat := 100
abbrev n_impl_intMul : Nat := 101
abbrev n_impl_natMul : Nat := 102
abbrev n_impl_DecOk : Nat := 103
abbrev n_impl_natTen : Nat := 104
abbrev n_impl_Rat_num : Nat := 105
abbrev n_impl_RatRound : Nat := 106
abbrev n_impl_RatInt : Nat := 107
abbrev n_impl_RatSub : Nat := 108
abbrev n_impl_signed : Nat := 109
abbrev n_impl_natAdd : Nat := 110
abbrev n_impl_natCopy : Nat := 111
abbrev n_spec_DecCmp : Nat := 112
abbrev n_spec_l02Cap : Nat := 113
abbrev n_spec_l02Cmp : Nat := 114
abbrev n_spec_l02Add : Nat := 115
abbrev n_spec_l02Sub : Nat := 116
abbrev n_spec_NatGcd : Nat := 117
abbrev n_spec_l02Trim : Nat := 118
abbrev n_spec_l05Gcd : Nat := 119
abbrev n_spec_l03Div : Nat := 120
abbrev n_spec_NatTen : Nat := 121
abbrev n_spec_l06Mode : Nat := 123
abbrev n_spec_l06Round : Nat := 124
abbrev n_spec_RatNeg : Nat := 125
abbrev n_impl_DecCmp : Nat := 126
abbrev n_impl_IntOf : Nat := 127
abbrev n_impl_RatOk : Nat := 128
abbrev n_impl_natGcd : Nat := 129
abbrev n_impl_natDiv : Nat := 130
abbrev n_impl_isScale : Nat := 131
abbrev n_impl_isMode : Nat := 132
abbrev n_impl_roundQuotient : Nat := 133
abbrev n_impl_RatMake : Nat := 134
abbrev n_impl_ratNeg : Nat := 135
abbrev n_spec_l07Both : Nat := 136
abbrev n_spec_l03Small : Nat := 137
abbrev n_spec_l03Digit : Nat := 138
abbrev n_spec_l06Away : Nat := 139
abbrev n_impl_intCmp : Nat := 141
abbrev n_impl_natSmall : Nat := 142
abbrev n_impl_divStep : Nat := 143
abbrev n_impl_roundModes : Nat := 144
abbrev n_impl_NatEven : Nat := 145
abbrev n_impl_intsOk : Nat := 146
abbrev n_spec_IntMul : Nat := 147
abbrev n_spec_NatEven : Nat := 148
abbrev n_impl_scaled_1 : Nat := 149
abbrev n_impl_intSign : Nat := 150
abbrev n_impl_subTimes : Nat := 151
abbrev n_impl_addBack : Nat := 152
abbrev n_impl_roundModes_1 : Nat := 153
abbrev n_impl_roundModes_2 : Nat := 154
abbrev n_impl_roundModes_3 : Nat := 155
abbrev n_impl_roundModes_4 : Nat := 156
abbrev n_impl_roundModes_5 : Nat := 157
abbrev n_impl_roundModes_6 : Nat := 158
abbrev n_impl_roundModes_7 : Nat := 159
abbrev T_int : Nat := 3
abbrev T_bool : Nat := 4
abbrev T_string : Nat := 9
abbrev T_s_int : Nat := 23
abbrev T_impl_Signed : Nat := 30
abbrev T_impl_Money : Nat := 32
abbrev T_impl_Rat : Nat := 34
abbrev T_s_impl_Step : Nat := 37
abbrev T_laws_Step : Nat := 53
abbrev T_impl_Dec : Nat := 60
abbrev T_impl_Step : Nat := 62
abbrev T_spec_l08Row : Nat := 104
abbrev T_impl_currency : Nat := 109
abbrev T_20_impl_currency : Nat := 125
abbrev T_impl_roundMode : Nat := 137
abbrev T_7_impl_roundMode : Nat := 138
end Go.Proofs.YtmajiilehdpdmaaGreatDoor

namespace Go.Proofs.YtmajiilehdpdmaaGreatDoor.Sx
open Go Go.RowKit
set_option linter.unusedVariables false
set_option linter.unusedSimpArgs false
inductive D0 where
  | int (n : Int) | bool (b : Bool) | str (s : ByteArray) | ints (l : List Int)
  deriving DecidableEq
inductive C0 where
  | int | bool | str | ints
  deriving DecidableEq
def D0.code : D0 → C0
  | .int _ => .int
  | .bool _ => .bool
  | .str _ => .str
  | .ints _ => .ints
def Rep0 (w : World) (v : Value) : D0 → Prop
  | .int n => v = .int .i64 n
  | .bool b => v = .bool b
  | .str s => v = .string s
  | .ints zs => ∃ p n c, v = .slice p n c ∧ IntsR w p n c zs
def Reps (w : World) : List Value → List D0 → Prop
  | [], [] => True
  | v :: vs, d :: ds => Rep0 w v d ∧ Reps w vs ds
  | _, _ => False
theorem Rep0.ext {w w' : World} {v : Value} {d : D0} (h : Rep0 w v d) (he : Ext w w') : Rep0 w' v d := by
  cases d <;> simp only [Rep0] at h ⊢ <;> try exact h
  obtain ⟨p, n, c, hv, hi⟩ := h
  exact ⟨p, n, c, hv, hi.ext he⟩
theorem Reps.ext {w w' : World} : ∀ {vs : List Value} {ds : List D0}, Reps w vs ds → Ext w w' → Reps w' vs ds
  | [], [], _, _ => trivial
  | [], _ :: _, h, _ => h.elim
  | _ :: _, [], h, _ => h.elim
  | _ :: _, _ :: _, h, he => ⟨h.1.ext he, Reps.ext h.2 he⟩
theorem Reps.len {w : World} : ∀ {vs : List Value} {ds : List D0}, Reps w vs ds → vs.length = ds.length
  | [], [], _ => rfl
  | [], _ :: _, h => h.elim
  | _ :: _, [], h => h.elim
  | _ :: _, _ :: _, h => by simp [Reps.len h.2]
theorem Reps.append {w : World} : ∀ {vs us : List Value} {ds es : List D0}, Reps w vs ds → Reps w us es → Reps w (vs ++ us) (ds ++ es)
  | [], _, [], _, _, k => k
  | [], _, _ :: _, _, h, _ => h.elim
  | _ :: _, _, [], _, h, _ => h.elim
  | _ :: _, _, _ :: _, _, h, k => ⟨h.1, Reps.append h.2 k⟩
theorem Reps.one {w : World} {vs : List Value} {ds : List D0} (h : Reps w vs ds) (h1 : ∀ v ∈ vs, v.oneCell' = true → True) : True := trivial
theorem Rep0.cell1 {w : World} {v : Value} {d : D0} (h : Rep0 w v d) : v.oneCell' = true := by
  cases d <;> simp only [Rep0] at h
  case ints l => obtain ⟨p, n, c, hv, _⟩ := h; rw [hv]; rfl
  all_goals (rw [h]; rfl)
theorem Reps.cells1 {w : World} : ∀ {vs : List Value} {ds : List D0}, Reps w vs ds → ∀ v ∈ vs, v.oneCell' = true
  | [], [], _, v, hv => by simp at hv
  | [], _ :: _, h, _, _ => h.elim
  | _ :: _, [], h, _, _ => h.elim
  | x :: xs, d :: ds, h, v, hv => by
    rcases List.mem_cons.1 hv with e | e
    · rw [e]; exact h.1.cell1
    · exact Reps.cells1 h.2 v e
theorem Reps.int {w : World} {vs : List Value} {ds : List D0} {cs : List C0} (h : Reps w vs ds) (hc : ds.map D0.code = .int :: cs) : ∃ n us es, vs = .int .i64 n :: us ∧ ds = .int n :: es ∧ Reps w us es ∧ es.map D0.code = cs := by
  cases ds with
  | nil => simp at hc
  | cons d es =>
    cases vs with
    | nil => exact h.elim
    | cons v us =>
      simp only [List.map_cons, List.cons.injEq] at hc
      cases d <;> simp [D0.code] at hc
      rename_i n
      exact ⟨n, us, es, by rw [show v = _ from h.1], rfl, h.2, hc⟩
theorem Reps.bool {w : World} {vs : List Value} {ds : List D0} {cs : List C0} (h : Reps w vs ds) (hc : ds.map D0.code = .bool :: cs) : ∃ b us es, vs = .bool b :: us ∧ ds = .bool b :: es ∧ Reps w us es ∧ es.map D0.code = cs := by
  cases ds with
  | nil => simp at hc
  | cons d es =>
    cases vs with
    | nil => exact h.elim
    | cons v us =>
      simp only [List.map_cons, List.cons.injEq] at hc
      cases d <;> simp [D0.code] at hc
      rename_i n
      exact ⟨n, us, es, by rw [show v = _ from h.1], rfl, h.2, hc⟩
theorem Reps.str {w : World} {vs : List Value} {ds : List D0} {cs : List C0} (h : Reps w vs ds) (hc : ds.map D0.code = .str :: cs) : ∃ s us es, vs = .string s :: us ∧ ds = .str s :: es ∧ Reps w us es ∧ es.map D0.code = cs := by
  cases ds with
  | nil => simp at hc
  | cons d es =>
    cases vs with
    | nil => exact h.elim
    | cons v us =>
      simp only [List.map_cons, List.cons.injEq] at hc
      cases d <;> simp [D0.code] at hc
      rename_i n
      exact ⟨n, us, es, by rw [show v = _ from h.1], rfl, h.2, hc⟩
theorem Reps.ints {w : World} {vs : List Value} {ds : List D0} {cs : List C0} (h : Reps w vs ds) (hc : ds.map D0.code = .ints :: cs) :
    ∃ p n c zs us es, vs = .slice p n c :: us ∧ ds = .ints zs :: es ∧ IntsR w p n c zs ∧ Reps w us es ∧ es.map D0.code = cs := by
  cases ds with
  | nil => simp at hc
  | cons d es =>
    cases vs with
    | nil => exact h.elim
    | cons v us =>
      simp only [List.map_cons, List.cons.injEq] at hc
      cases d <;> simp [D0.code] at hc
      rename_i zs
      obtain ⟨p, n, c, hv, hi⟩ := h.1
      exact ⟨p, n, c, zs, us, es, by rw [hv], rfl, hi, h.2, hc⟩
theorem Reps.done {w : World} {vs : List Value} {ds : List D0} (h : Reps w vs ds) (hc : ds.map D0.code = []) : vs = [] ∧ ds = [] := by
  have : ds = [] := by simpa using hc
  subst this
  cases vs with
  | nil => exact ⟨rfl, rfl⟩
  | cons _ _ => exact h.elim
def RowsR (w : World) (k : Nat) (p : Option Addr) (n c : Nat) (l : List (List D0)) : Prop :=
 l.length = n ∧ n ≤ c ∧ c ≤ 9223372036854775807 ∧ (0 < n → ∃ b off, p = some ⟨b, off, none⟩ ∧ ∀ i x, l[i]? = some x → ∃ cs, cs.length = k ∧ Reps w cs x ∧ Seg w b (off + i * k) cs)
theorem RowsR.ext {w w' : World} {k : Nat} {p : Option Addr} {n c : Nat} {l : List (List D0)} (h : RowsR w k p n c l) (he : Ext w w') : RowsR w' k p n c l :=
  ⟨h.1, h.2.1, h.2.2.1, fun hn => let ⟨b, off, hp, hs⟩ := h.2.2.2 hn; ⟨b, off, hp, fun i x hx => let ⟨cs, h1, h2, h3⟩ := hs i x hx; ⟨cs, h1, h2.ext he, h3.ext he⟩⟩⟩
theorem RowsR.nil (w : World) (k : Nat) (p : Option Addr) {c : Nat} (hc : c ≤ 9223372036854775807) : RowsR w k p 0 c [] := ⟨rfl, Nat.zero_le _, hc, fun h => absurd h (by omega)⟩
theorem RowsR.at {P : Program} {w : World} {k : Nat} {p : Option Addr} {n c i : Nat} {l : List (List D0)} (h : RowsR w k p n c l) {t : TypeId} (ht : aggT P t k = true) (hi : i < n) :
    ∃ a cs, p = some a ∧ cs.length = k ∧ Reps w cs (l[i]'(by rw [h.1]; exact hi)) ∧ Loads P t (a.add (i * k)) (.agg ⟨cs⟩) w := by
  obtain ⟨b, off, hp, hs⟩ := h.2.2.2 (by omega)
  obtain ⟨cs, h1, h2, h3⟩ := hs i _ (List.getElem?_eq_getElem (by rw [h.1]; exact hi))
  refine ⟨_, cs, hp, h1, h2, ?_⟩
  rw [addr_add]
  exact loadsA (by rw [h1]; exact ht) h3
def D0.bulk : D0 → Nat
  | .str s => s.size
  | .ints l => l.length
  | _ => 0
def bulks (ds : List D0) : Nat := (ds.map D0.bulk).sum
theorem bulks_le {l : List (List D0)} {y : List D0} (h : y ∈ l) : bulks y ≤ (l.map bulks).sum := by
  induction l with
  | nil => simp at h
  | cons a r ih =>
    simp only [List.map_cons, List.sum_cons]
    rcases List.mem_cons.1 h with e | e
    · rw [e]; omega
    · have := ih e; omega
def D0.ok : D0 → Prop
  | .int n => -9223372036854775808 ≤ n ∧ n ≤ 9223372036854775807
  | .str s => s.size ≤ 9223372036854775807
  | .ints l => l.length ≤ 9223372036854775807
  | .bool _ => True
end Go.Proofs.YtmajiilehdpdmaaGreatDoor.Sx

namespace Go.Proofs.YtmajiilehdpdmaaGreatDoor.Sx
open Go Go.RowKit
set_option linter.unusedVariables false
set_option linter.unusedSimpArgs false
section
variable {P : Program}
theorem Blk.load0 {w : World} {t : TypeId} {b k : Nat} {e : TypeId} {cs : List Value} {v : Value} (h : Blk w b e cs) (ht : cellT P t = true) (hx : cs[k]? = some v) : Loads P t ⟨b, k, none⟩ v w :=
  loads1 ht (by rw [h.cell]; exact hx)
theorem Blk.loadA0 {w : World} {t : TypeId} {b : Nat} {e : TypeId} {cs : List Value} (h : Blk w b e cs) (ht : aggT P t cs.length = true) : Loads P t ⟨b, 0, none⟩ (.agg ⟨cs⟩) w :=
  loadsA ht h.seg
theorem Blk.store0 {w : World} {t : TypeId} {b k : Nat} {e : TypeId} {cs : List Value} {v : Value} (h : Blk w b e cs) (ht : cellT P t = true) (hk : k < cs.length) (hv : v.oneCell' = true) :
    ∃ w', Stores P t ⟨b, k, none⟩ v w w' ∧ Blk w' b e (cs.set k v) ∧ Chg [b] w w' ∧ w'.heap.size = w.heap.size := by
  have := h.store (P := P) ht hk hv
  rw [addr_add, Nat.zero_add] at this
  exact this
theorem Blk.storeA0 {w : World} {t : TypeId} {b : Nat} {e : TypeId} {cs xs : List Value} (h : Blk w b e cs) (ht : aggT P t xs.length = true) (hk : xs.length = cs.length) (hv : ∀ v ∈ xs, v.oneCell' = true) :
    ∃ w', Stores P t ⟨b, 0, none⟩ (.agg ⟨xs⟩) w w' ∧ Blk w' b e xs ∧ Chg [b] w w' ∧ w'.heap.size = w.heap.size := by
  obtain ⟨w', h1, h2, h3, h4⟩ := h.storeA (P := P) (k := 0) ht (by omega) hv
  rw [addr_add, Nat.zero_add] at h1
  refine ⟨w', h1, ?_, h3, h4⟩
  rw [List.take_zero, List.nil_append, Nat.zero_add, hk, List.drop_length, List.append_nil] at h2
  exact h2
end
def Own0 (w : World) (B : Nat) (v : Value) : D0 → List Nat → Prop
  | .int n, f => v = .int .i64 n ∧ f = []
  | .bool b, f => v = .bool b ∧ f = []
  | .str s, f => v = .string s ∧ f = []
  | .ints zs, f => ∃ p n c, v = .slice p n c ∧ Own w B T_int 1 p n c (zs.map (Value.int .i64)) ∧ f = (p.map (·.block)).toList
def Owns (w : World) (B : Nat) : List Value → List D0 → List Nat → Prop
  | [], [], f => f = []
  | v :: vs, d :: ds, f => ∃ f1 f2, f = f1 ++ f2 ∧ Own0 w B v d f1 ∧ Owns w B vs ds f2
  | _, _, _ => False
theorem Own0.rep {w : World} {B : Nat} {v : Value} {d : D0} {f : List Nat} (h : Own0 w B v d f) : Rep0 w v d := by
  cases d <;> simp only [Own0] at h <;> simp only [Rep0]
  case ints zs => obtain ⟨p, n, c, hv, ho, _⟩ := h; exact ⟨p, n, c, hv, ho.ints⟩
  all_goals exact h.1
theorem Owns.reps {w : World} {B : Nat} : ∀ {vs : List Value} {ds : List D0} {f : List Nat}, Owns w B vs ds f → Reps w vs ds
  | [], [], _, _ => trivial
  | [], _ :: _, _, h => h.elim
  | _ :: _, [], _, h => h.elim
  | _ :: _, _ :: _, _, h => by
    obtain ⟨f1, f2, _, h1, h2⟩ := h
    exact ⟨h1.rep, Owns.reps h2⟩
theorem Own0.lt {w : World} {B : Nat} {v : Value} {d : D0} {f : List Nat} (h : Own0 w B v d f) : ∀ k ∈ f, B ≤ k ∧ k < w.heap.size := by
  cases d <;> simp only [Own0] at h
  case ints zs =>
    obtain ⟨p, n, c, hv, ho, hf⟩ := h
    intro k hk
    rw [hf] at hk
    exact World.ownsRow.lt ho k (by cases p <;> simp_all [Value.ownBlock])
  all_goals (intro k hk; rw [h.2] at hk; simp at hk)
theorem Owns.lt {w : World} {B : Nat} : ∀ {vs : List Value} {ds : List D0} {f : List Nat}, Owns w B vs ds f → ∀ k ∈ f, B ≤ k ∧ k < w.heap.size
  | [], [], _, h, k, hk => by rw [h] at hk; simp at hk
  | [], _ :: _, _, h, _, _ => h.elim
  | _ :: _, [], _, h, _, _ => h.elim
  | _ :: _, _ :: _, _, h, k, hk => by
    obtain ⟨f1, f2, rfl, h1, h2⟩ := h
    rcases List.mem_append.1 hk with hk | hk
    · exact h1.lt k hk
    · exact Owns.lt h2 k hk
theorem Own0.ext {w w' : World} {B : Nat} {v : Value} {d : D0} {f : List Nat} (h : Own0 w B v d f) (he : Ext w w') : Own0 w' B v d f := by
  cases d <;> simp only [Own0] at h ⊢ <;> try exact h
  obtain ⟨p, n, c, hv, ho, hf⟩ := h
  exact ⟨p, n, c, hv, ho.ext he, hf⟩
theorem Owns.ext {w w' : World} {B : Nat} : ∀ {vs : List Value} {ds : List D0} {f : List Nat}, Owns w B vs ds f → Ext w w' → Owns w' B vs ds f
  | [], [], _, h, _ => h
  | [], _ :: _, _, h, _ => h.elim
  | _ :: _, [], _, h, _ => h.elim
  | _ :: _, _ :: _, _, h, he => by
    obtain ⟨f1, f2, rfl, h1, h2⟩ := h
    exact ⟨f1, f2, rfl, h1.ext he, Owns.ext h2 he⟩
theorem Own.chg {S : List Nat} {w w' : World} {B : Nat} {e : TypeId} {size : Nat} {p : Option Addr} {n c : Nat} {xs : List Value} (h : Own w B e size p n c xs) (he : Chg S w w') (hS : ∀ k, p.map (·.block) = some k → k ∉ S) : Own w' B e size p n c xs := by
  refine ⟨h.1, ?_⟩
  rcases h.2 with h1 | ⟨g, cap, cur, h1, h2, h3, h4⟩
  · exact .inl h1
  · refine .inr ⟨g, cap, cur, h1, h2, ?_, h4⟩
    simp only [Value.slice.injEq] at h1
    rw [he.block g (Array.getElem?_eq_some_iff.1 h3).1 (hS g (by rw [h1.1]; rfl))]
    exact h3
theorem Own0.chg {S : List Nat} {w w' : World} {B : Nat} {v : Value} {d : D0} {f : List Nat} (h : Own0 w B v d f) (he : Chg S w w') (hS : ∀ k ∈ f, k ∉ S) : Own0 w' B v d f := by
  cases d <;> simp only [Own0] at h ⊢ <;> try exact h
  obtain ⟨p, n, c, hv, ho, hf⟩ := h
  exact ⟨p, n, c, hv, ho.chg he (fun k hk => hS k (by rw [hf, hk]; simp)), hf⟩
theorem Owns.chg {S : List Nat} {w w' : World} {B : Nat} : ∀ {vs : List Value} {ds : List D0} {f : List Nat}, Owns w B vs ds f → Chg S w w' → (∀ k ∈ f, k ∉ S) → Owns w' B vs ds f
  | [], [], _, h, _, _ => h
  | [], _ :: _, _, h, _, _ => h.elim
  | _ :: _, [], _, h, _, _ => h.elim
  | _ :: _, _ :: _, _, h, he, hS => by
    obtain ⟨f1, f2, rfl, h1, h2⟩ := h
    exact ⟨f1, f2, rfl, h1.chg he (fun k hk => hS k (by simp [hk])), Owns.chg h2 he (fun k hk => hS k (by simp [hk]))⟩
theorem Owns.chg1 {r : Nat} {w w' : World} {B : Nat} {vs : List Value} {ds : List D0} {f : List Nat} (h : Owns w B vs ds f) (he : Chg [r] w w') (hr : r < B) : Owns w' B vs ds f :=
  h.chg he fun k hk hm => by
    have := (h.lt k hk).1
    simp at hm; omega
theorem Own0.mono {w : World} {B B' : Nat} {v : Value} {d : D0} {f : List Nat} (h : Own0 w B v d f) (hb : B' ≤ B) : Own0 w B' v d f := by
  cases d <;> simp only [Own0] at h ⊢ <;> try exact h
  obtain ⟨p, n, c, hv, ho, hf⟩ := h
  exact ⟨p, n, c, hv, ho.mono hb, hf⟩
theorem Owns.mono {w : World} {B B' : Nat} (hb : B' ≤ B) : ∀ {vs : List Value} {ds : List D0} {f : List Nat}, Owns w B vs ds f → Owns w B' vs ds f
  | [], [], _, h => h
  | [], _ :: _, _, h => h.elim
  | _ :: _, [], _, h => h.elim
  | _ :: _, _ :: _, _, h => by
    obtain ⟨f1, f2, rfl, h1, h2⟩ := h
    exact ⟨f1, f2, rfl, h1.mono hb, Owns.mono hb h2⟩
theorem Owns.append {w : World} {B : Nat} : ∀ {vs us : List Value} {ds es : List D0} {f g : List Nat}, Owns w B vs ds f → Owns w B us es g → Owns w B (vs ++ us) (ds ++ es) (f ++ g)
  | [], _, [], _, f, g, h, k => by rw [show f = [] from h]; exact k
  | [], _, _ :: _, _, _, _, h, _ => h.elim
  | _ :: _, _, [], _, _, _, h, _ => h.elim
  | _ :: _, _, _ :: _, _, _, g, h, k => by
    obtain ⟨f1, f2, rfl, h1, h2⟩ := h
    exact ⟨f1, f2 ++ g, by simp, h1, Owns.append h2 k⟩
theorem Owns.nil (w : World) (B : Nat) : Owns w B [] [] [] := rfl
theorem Owns.bool (w : World) (B : Nat) (b : Bool) : Owns w B [.bool b] [.bool b] [] := ⟨[], [], rfl, ⟨rfl, rfl⟩, rfl⟩
theorem Owns.int (w : World) (B : Nat) (n : Int) : Owns w B [.int .i64 n] [.int n] [] := ⟨[], [], rfl, ⟨rfl, rfl⟩, rfl⟩
theorem Owns.str (w : World) (B : Nat) (s : ByteArray) : Owns w B [.string s] [.str s] [] := ⟨[], [], rfl, ⟨rfl, rfl⟩, rfl⟩
theorem Owns.ints {w : World} {B : Nat} {p : Option Addr} {n c : Nat} {zs : List Int} (h : Own w B T_int 1 p n c (zs.map (Value.int .i64))) : Owns w B [.slice p n c] [.ints zs] (p.map (·.block)).toList :=
  ⟨_, [], by simp, ⟨p, n, c, rfl, h, rfl⟩, rfl⟩
theorem nodup_append {f g : List Nat} {m : Nat} (hf : f.Nodup) (hg : g.Nodup) (h1 : ∀ k ∈ f, k < m) (h2 : ∀ k ∈ g, m ≤ k) : (f ++ g).Nodup := by
  rw [List.nodup_append]
  exact ⟨hf, hg, fun a ha b hb e => by have := h1 a ha; have := h2 b hb; omega⟩
theorem Blk.loadAt {P : Program} {w : World} {t : TypeId} {b : Nat} {e : TypeId} {cs : List Value} {v : Value} {a : Addr} (k : Nat) (h : Blk w b e cs) (ha : a = ⟨b, k, none⟩) (ht : cellT P t = true) (hx : cs[k]? = some v) : Loads P t a v w := by
  subst ha; exact h.load0 ht hx
theorem Blk.loadAAt {P : Program} {w : World} {t : TypeId} {b : Nat} {e : TypeId} {cs : List Value} {a : Addr} (k : Nat) (xs : List Value) (h : Blk w b e cs) (ha : a = ⟨b, k, none⟩) (ht : aggT P t xs.length = true) (hx : (cs.drop k).take xs.length = xs) : Loads P t a (.agg ⟨xs⟩) w := by
  subst ha
  have := h.loadA (P := P) (k := k) ht hx
  rwa [addr_add, Nat.zero_add] at this
theorem Seg.loadAt {P : Program} {w : World} {t : TypeId} {b o : Nat} {cs : List Value} {v : Value} {a : Addr} (k : Nat) (h : Seg w b o cs) (ha : a = ⟨b, o + k, none⟩) (ht : cellT P t = true) (hx : cs[k]? = some v) : Loads P t a v w := by
  subst ha; exact loads1 ht (h _ _ hx)
theorem Seg.loadAAt {P : Program} {w : World} {t : TypeId} {b o : Nat} {cs : List Value} {a : Addr} (k : Nat) (xs : List Value) (h : Seg w b o cs) (ha : a = ⟨b, o + k, none⟩) (ht : aggT P t xs.length = true) (hx : (cs.drop k).take xs.length = xs) : Loads P t a (.agg ⟨xs⟩) w := by
  subst ha
  have := h.loadA (P := P) (k := k) ht hx
  rwa [addr_add] at this
theorem New.fill {P : Program} {w w1 : World} {zs : List Value} {e : TypeId} {r : Nat} (hn : New w (.cells ⟨zs⟩ e (0, 0)) r w1) {t : TypeId} {xs : List Value} (hv : ∀ v ∈ xs, v.oneCell' = true) (ht : aggT P t xs.length = true) (hl : xs.length = zs.length) :
    ∃ w2, Stores P t ⟨r, 0, none⟩ (.agg ⟨xs⟩) w1 w2 ∧ Blk w2 r e xs ∧ Ext w w2 := by
  obtain ⟨w2, st, hb, ch, sz⟩ := hn.blk.storeA0 (P := P) (t := t) ht hl hv
  exact ⟨w2, st, hb, hn.ext.chg ch (by have := hn.r_eq; simp; omega)⟩
def AllO (w : World) (B k : Nat) : List (List Value) → List (List D0) → List (List Nat) → Prop
  | [], [], [] => True
  | cs :: css, x :: l, f :: fs => cs.length = k ∧ Owns w B cs x f ∧ AllO w B k css l fs
  | _, _, _ => False
theorem AllO.ext {w w' : World} {B k : Nat} : ∀ {css : List (List Value)} {l : List (List D0)} {fs : List (List Nat)}, AllO w B k css l fs → Ext w w' → AllO w' B k css l fs
  | [], [], [], _, _ => trivial
  | _ :: _, _ :: _, _ :: _, h, he => ⟨h.1, h.2.1.ext he, AllO.ext h.2.2 he⟩
  | [], [], _ :: _, h, _ => h.elim
  | [], _ :: _, _, h, _ => h.elim
  | _ :: _, [], _, h, _ => h.elim
  | _ :: _, _ :: _, [], h, _ => h.elim
theorem AllO.chg {S : List Nat} {w w' : World} {B k : Nat} : ∀ {css : List (List Value)} {l : List (List D0)} {fs : List (List Nat)}, AllO w B k css l fs → Chg S w w' → (∀ x ∈ fs.flatten, x ∉ S) → AllO w' B k css l fs
  | [], [], [], _, _, _ => trivial
  | _ :: _, _ :: _, _ :: _, h, he, hS => ⟨h.1, h.2.1.chg he (fun x hx => hS x (by simp [hx])), AllO.chg h.2.2 he (fun x hx => hS x (by rw [List.flatten_cons]; exact List.mem_append_right _ hx))⟩
  | [], [], _ :: _, h, _, _ => h.elim
  | [], _ :: _, _, h, _, _ => h.elim
  | _ :: _, [], _, h, _, _ => h.elim
  | _ :: _, _ :: _, [], h, _, _ => h.elim
theorem AllO.mono {w : World} {B B' k : Nat} (hb : B' ≤ B) : ∀ {css : List (List Value)} {l : List (List D0)} {fs : List (List Nat)}, AllO w B k css l fs → AllO w B' k css l fs
  | [], [], [], _ => trivial
  | _ :: _, _ :: _, _ :: _, h => ⟨h.1, h.2.1.mono hb, AllO.mono hb h.2.2⟩
  | [], [], _ :: _, h => h.elim
  | [], _ :: _, _, h => h.elim
  | _ :: _, [], _, h => h.elim
  | _ :: _, _ :: _, [], h => h.elim
theorem AllO.lt {w : World} {B k : Nat} : ∀ {css : List (List Value)} {l : List (List D0)} {fs : List (List Nat)}, AllO w B k css l fs → ∀ x ∈ fs.flatten, B ≤ x ∧ x < w.heap.size
  | [], [], [], _, x, hx => by simp at hx
  | _ :: _, _ :: _, _ :: _, h, x, hx => by
    rw [List.flatten_cons, List.mem_append] at hx
    rcases hx with hx | hx
    · exact h.2.1.lt x hx
    · exact AllO.lt h.2.2 x hx
  | [], [], _ :: _, h, _, _ => h.elim
  | [], _ :: _, _, h, _, _ => h.elim
  | _ :: _, [], _, h, _, _ => h.elim
  | _ :: _, _ :: _, [], h, _, _ => h.elim
theorem AllO.snoc {w : World} {B k : Nat} {cs : List Value} {x : List D0} {f : List Nat} (hk : cs.length = k) (ho : Owns w B cs x f) : ∀ {css : List (List Value)} {l : List (List D0)} {fs : List (List Nat)}, AllO w B k css l fs → AllO w B k (css ++ [cs]) (l ++ [x]) (fs ++ [f])
  | [], [], [], _ => ⟨hk, ho, trivial⟩
  | _ :: _, _ :: _, _ :: _, h => ⟨h.1, h.2.1, AllO.snoc hk ho h.2.2⟩
  | [], [], _ :: _, h => h.elim
  | [], _ :: _, _, h => h.elim
  | _ :: _, [], _, h => h.elim
  | _ :: _, _ :: _, [], h => h.elim
theorem AllO.len {w : World} {B k : Nat} : ∀ {css : List (List Value)} {l : List (List D0)} {fs : List (List Nat)}, AllO w B k css l fs → css.length = l.length ∧ css.flatten.length = l.length * k
  | [], [], [], _ => ⟨rfl, by simp⟩
  | cs :: css, x :: l, _ :: _, h => by
    have := AllO.len h.2.2
    refine ⟨by simp [this.1], ?_⟩
    rw [List.flatten_cons, List.length_append, this.2, h.1, List.length_cons, Nat.succ_mul, Nat.add_comm]
  | [], [], _ :: _, h => h.elim
  | [], _ :: _, _, h => h.elim
  | _ :: _, [], _, h => h.elim
  | _ :: _, _ :: _, [], h => h.elim
theorem AllO.cells1 {w : World} {B k : Nat} : ∀ {css : List (List Value)} {l : List (List D0)} {fs : List (List Nat)}, AllO w B k css l fs → ∀ v ∈ css.flatten, v.oneCell' = true
  | [], [], [], _, v, hv => by simp at hv
  | _ :: _, _ :: _, _ :: _, h, v, hv => by
    rw [List.flatten_cons, List.mem_append] at hv
    rcases hv with hv | hv
    · exact h.2.1.reps.cells1 v hv
    · exact AllO.cells1 h.2.2 v hv
  | [], [], _ :: _, h, _, _ => h.elim
  | [], _ :: _, _, h, _, _ => h.elim
  | _ :: _, [], _, h, _, _ => h.elim
  | _ :: _, _ :: _, [], h, _, _ => h.elim
theorem AllO.at {w : World} {B k : Nat} : ∀ {css : List (List Value)} {l : List (List D0)} {fs : List (List Nat)}, AllO w B k css l fs → ∀ i x, l[i]? = some x → ∃ cs, cs.length = k ∧ Reps w cs x ∧ (css.flatten.drop (i * k)).take k = cs
  | [], [], [], _, i, x, hx => by simp at hx
  | cs :: css, y :: l, _ :: _, h, i, x, hx => by
    cases i with
    | zero =>
      simp only [List.getElem?_cons_zero, Option.some.injEq] at hx
      subst hx
      refine ⟨cs, h.1, h.2.1.reps, ?_⟩
      rw [Nat.zero_mul, List.drop_zero, List.flatten_cons, ← h.1, List.take_left]
    | succ i =>
      simp only [List.getElem?_cons_succ] at hx
      obtain ⟨c, h1, h2, h3⟩ := AllO.at h.2.2 i x hx
      refine ⟨c, h1, h2, ?_⟩
      rw [List.flatten_cons, Nat.succ_mul, Nat.add_comm, ← List.drop_drop, ← h.1, List.drop_left, h.1]
      exact h3
  | [], [], _ :: _, h, _, _, _ => h.elim
  | [], _ :: _, _, h, _, _, _ => h.elim
  | _ :: _, [], _, h, _, _, _ => h.elim
  | _ :: _, _ :: _, [], h, _, _, _ => h.elim
def OwnRows (w : World) (B : Nat) (e : TypeId) (k : Nat) (p : Option Addr) (n c : Nat) (l : List (List D0)) (f : List Nat) : Prop :=
 l.length = n ∧ ∃ css fs, AllO w B k css l fs ∧ Own w B e k p n c css.flatten ∧ f = (p.map (·.block)).toList ++ fs.flatten ∧ f.Nodup
theorem OwnRows.rows {w : World} {B : Nat} {e : TypeId} {k : Nat} {p : Option Addr} {n c : Nat} {l : List (List D0)} {f : List Nat} (h : OwnRows w B e k p n c l f) : RowsR w k p n c l := by
  obtain ⟨hl, css, fs, ha, ho, _, _⟩ := h
  refine ⟨hl, ho.le, ho.capLe, fun hn => ?_⟩
  obtain ⟨b, hp, _, hs⟩ := ho.seg hn
  refine ⟨b, 0, hp, fun i x hx => ?_⟩
  obtain ⟨cs, h1, h2, h3⟩ := ha.at i x hx
  exact ⟨cs, h1, h2, by rw [← h3]; exact (hs.drop (i * k)).take k⟩
theorem OwnRows.lt {w : World} {B : Nat} {e : TypeId} {k : Nat} {p : Option Addr} {n c : Nat} {l : List (List D0)} {f : List Nat} (h : OwnRows w B e k p n c l f) : ∀ x ∈ f, B ≤ x ∧ x < w.heap.size := by
  obtain ⟨hl, css, fs, ha, ho, rfl, _⟩ := h
  intro x hx
  rcases List.mem_append.1 hx with hx | hx
  · exact World.ownsRow.lt ho x (by cases p <;> simp_all [Value.ownBlock])
  · exact ha.lt x hx
theorem OwnRows.ext {w w' : World} {B : Nat} {e : TypeId} {k : Nat} {p : Option Addr} {n c : Nat} {l : List (List D0)} {f : List Nat} (h : OwnRows w B e k p n c l f) (he : Ext w w') : OwnRows w' B e k p n c l f := by
  obtain ⟨hl, css, fs, ha, ho, hf, hn⟩ := h
  exact ⟨hl, css, fs, ha.ext he, ho.ext he, hf, hn⟩
theorem OwnRows.mono {w : World} {B B' : Nat} {e : TypeId} {k : Nat} {p : Option Addr} {n c : Nat} {l : List (List D0)} {f : List Nat} (h : OwnRows w B e k p n c l f) (hb : B' ≤ B) : OwnRows w B' e k p n c l f := by
  obtain ⟨hl, css, fs, ha, ho, hf, hn⟩ := h
  exact ⟨hl, css, fs, ha.mono hb, ho.mono hb, hf, hn⟩
theorem OwnRows.chg {S : List Nat} {w w' : World} {B : Nat} {e : TypeId} {k : Nat} {p : Option Addr} {n c : Nat} {l : List (List D0)} {f : List Nat} (h : OwnRows w B e k p n c l f) (he : Chg S w w') (hS : ∀ x ∈ f, x ∉ S) : OwnRows w' B e k p n c l f := by
  obtain ⟨hl, css, fs, ha, ho, rfl, hn⟩ := h
  exact ⟨hl, css, fs, ha.chg he (fun x hx => hS x (List.mem_append_right _ hx)), ho.chg he (fun x hx => hS x (List.mem_append_left _ (by rw [hx]; simp))), rfl, hn⟩
theorem fill_row {xs cs : List Value} {css : List (List Value)} {j k n : Nat} (hl : xs.length = n * k) (ht : xs.take (j * k) = css.flatten) (hk : cs.length = k) (hj : j < n) :
    j * k + cs.length ≤ xs.length ∧ (xs.take (j * k) ++ cs ++ xs.drop (j * k + cs.length)).length = n * k ∧ (xs.take (j * k) ++ cs ++ xs.drop (j * k + cs.length)).take ((j + 1) * k) = (css ++ [cs]).flatten := by
  have h1 : (j + 1) * k ≤ n * k := Nat.mul_le_mul_right _ (by omega)
  have h2 : (j + 1) * k = j * k + k := Nat.succ_mul j k
  refine ⟨by omega, by simp; omega, ?_⟩
  have h3 : (xs.take (j * k) ++ cs).length = (j + 1) * k := by simp; omega
  rw [List.take_left' h3, ht]
  simp
theorem dec_no {p : Prop} [Decidable p] (h : ¬ p) : Value.bool false = Value.bool (decide p) := by simp [h]
theorem dec_yes {p : Prop} [Decidable p] (h : p) : Value.bool true = Value.bool (decide p) := by simp [h]
end Go.Proofs.YtmajiilehdpdmaaGreatDoor.Sx

namespace Go.Proofs.YtmajiilehdpdmaaGreatDoor
open Go Go.Proofs.YtmajiilehdpdmaaGreatDoor.Sx
set_option linter.unusedVariables false
set_option linter.unusedSimpArgs false
theorem take_set {α : Type} (l : List α) (d v : α) (k : Nat) (hk : k < l.length) (n : Nat) (hn : 0 < n) (h : l[k]? = some v) :
    (l.take k ++ List.replicate n d).set k v = l.take (k + 1) ++ List.replicate (n - 1) d := by
  have hlen : (l.take k).length = k := by simp; omega
  rw [List.set_append_right _ _ (by omega), hlen, Nat.sub_self]
  obtain ⟨m, rfl⟩ : ∃ m, n = m + 1 := ⟨n - 1, by omega⟩
  rw [List.replicate_succ, List.set_cons_zero, List.take_add_one, h]
  simp
theorem laws_toIntS_c {w : World} {p : Option Addr} {n c : Nat} {zs : List Int} (h : IntsR w p n c zs) (hn : n ≤ 1048576) :
    Ret P n_laws_toIntS [.slice p n c] w fun v w' => ∃ r, v = .slice (some ⟨r, 0, none⟩) n n ∧ Own w' w.heap.size T_int 1 (some ⟨r, 0, none⟩) n n (zs.map (Value.int .i64)) ∧ Ext w w' := by
  refine laws_toIntS_ret ?_
  unfold laws_toIntS
  refine ⟨⟨by omega, by omega, by omega⟩, fun r w1 hnew => ?_⟩
  have hlen := h.1
  refine ⟨fun i wr => ∃ k : Nat, i = k ∧ k ≤ n ∧ Ext w wr ∧ Blk wr r T_int ((zs.map (Value.int .i64)).take k ++ List.replicate (n - k) (Value.int .i64 0)), fun i _ => n - i.toNat, ⟨0, rfl, by omega, hnew.ext, ?_⟩, ?_⟩
  · have := hnew.blk
    rw [zeroRow_int, Nat.mul_one] at this
    simpa using this
  · intro junk wr i ⟨k, hik, hk, hx, hb⟩
    subst hik
    refine ifD (fun hlt => ?_) (fun hge => ?_)
    · have hlt' : k < n := by omega
      obtain ⟨a, rfl, hl⟩ := (h.ext hx).at (P := P) (t := T_int) (by kernel_rfl) hlt'
      have hl2 : ((zs.map (Value.int .i64)).take k ++ List.replicate (n - k) (Value.int .i64 0)).length = n := by simp; omega
      obtain ⟨w2, hst, hb2, hc, hs⟩ := hb.store (P := P) (t := T_int) (k := k) (v := .int .i64 (zs[k]'(by omega))) (by kernel_rfl) (by omega) rfl
      refine ⟨⟨by omega, by omega⟩, zs[k]'(by omega), by simpa using hl, ⟨by omega, by omega⟩, w2, by simpa using hst, exW ⟨by omega, by omega⟩ ⟨⟨k + 1, by omega, by omega, hx.chg hc (by simp; have := hnew.r_eq; omega), ?_⟩, by simp; omega⟩⟩
      rw [take_set _ _ _ _ (by simp; omega) _ (by omega) (by simp [show k < zs.length by omega])] at hb2
      rwa [show n - (k + 1) = n - k - 1 by omega]
    · have hkn : k = n := by omega
      subst hkn
      refine ⟨r, rfl, ?_, hx⟩
      rw [Nat.sub_self, List.replicate_zero, List.append_nil, List.take_of_length_le (by simp; omega)] at hb
      exact Own.of_blk hb (by have := hnew.r_eq; omega) (by simp; omega) (by simp only [maxLen]; omega)
theorem laws_szIntS_c {w : World} {p : Option Addr} {n c : Nat} {left : Int} (h0 : 0 ≤ left) (h1 : left ≤ 1048576) (hn : n ≤ 9223372036854775807) :
    Ret P n_laws_szIntS [.slice p n c, .int .i64 left] w fun v w' => ∃ r : Int, v = .int .i64 r ∧ (0 ≤ r → r + n ≤ left) ∧ r ≤ 1048576 ∧ Ext w w' := by
  refine laws_szIntS_ret ?_
  unfold laws_szIntS
  refine exW ⟨by omega, by omega⟩ (ifD (fun h => ⟨_, rfl, by omega, by omega, Ext.refl _⟩) (fun h => ⟨_, rfl, by omega, by omega, Ext.refl _⟩))
theorem laws_eqIntS_c {w : World} {p q : Option Addr} {n c m d : Nat} {zs ys : List Int} (h : IntsR w p n c zs) (k : IntsR w q m d ys) :
    Ret P n_laws_eqIntS [.slice p n c, .slice q m d] w fun v w' => v = .bool (decide (zs = ys)) ∧ Ext w w' := by
  refine laws_eqIntS_ret ?_
  unfold laws_eqIntS
  have hn : n ≤ 9223372036854775807 := Nat.le_trans h.2.1 h.2.2.1
  have hz := h.1
  have hy := k.1
  refine ifD (fun hne => ⟨?_, Ext.refl _⟩) (fun heq => ?_)
  · have : zs ≠ ys := fun e => hne (by rw [← hz, ← hy, e])
    simp [this]
  · have hnm : n = m := by omega
    refine ⟨fun i wr => ∃ j : Nat, i = j ∧ j ≤ n ∧ Ext w wr ∧ zs.take j = ys.take j, fun i _ => n - i.toNat, ⟨0, rfl, by omega, Ext.refl _, by simp⟩, ?_⟩
    intro junk wr i ⟨j, hij, hj, hx, he⟩
    subst hij
    refine ifD (fun hlt => ?_) (fun hge => ⟨?_, hx⟩)
    · have hjn : j < n := by omega
      have hx' := hx.trans (Ext.drew wr)
      obtain ⟨a, hpa, _⟩ := (h.ext hx').at (P := P) (t := T_int) (by kernel_rfl) hjn
      obtain ⟨b, hqb, _⟩ := (k.ext hx').at (P := P) (t := T_int) (by kernel_rfl) (show j < m by omega)
      subst hpa
      subst hqb
      have l1 : ∀ w', Ext wr.drew w' → Loads P T_int (a.add ((j : Int).toNat * 1)) (.int .i64 (zs[j]'(by omega))) w' := fun w' hw => by
        obtain ⟨a', ha, hl⟩ := ((h.ext hx').ext hw).at (P := P) (t := T_int) (by kernel_rfl) hjn
        cases ha
        simpa using hl
      have l2 : ∀ w', Ext wr.drew w' → Loads P T_int (b.add ((j : Int).toNat * 1)) (.int .i64 (ys[j]'(by omega))) w' := fun w' hw => by
        obtain ⟨a', ha, hl⟩ := ((k.ext hx').ext hw).at (P := P) (t := T_int) (by kernel_rfl) (show j < m by omega)
        cases ha
        simpa using hl
      refine ⟨⟨by omega, by omega⟩, _, l1, ⟨by omega, by omega⟩, _, l2, ifD (fun hne => ⟨?_, hx'⟩) (fun heq2 => ?_)⟩
      · have : zs ≠ ys := fun e => hne (by subst e; rfl)
        simp [this]
      · refine exW ⟨by omega, by omega⟩ ⟨⟨j + 1, by omega, by omega, hx', ?_⟩, by simp; omega⟩
        have e2 : zs[j]'(by omega) = ys[j]'(by omega) := by simpa using heq2
        rw [List.take_add_one, List.take_add_one, he, List.getElem?_eq_getElem (by omega), List.getElem?_eq_getElem (by omega), e2]
    · have hjn : j = n := by omega
      subst hjn
      rw [List.take_of_length_le (by omega), List.take_of_length_le (by omega)] at he
      simp [he]
end Go.Proofs.YtmajiilehdpdmaaGreatDoor

namespace Go.Proofs.YtmajiilehdpdmaaGreatDoor
open Go Go.Proofs.YtmajiilehdpdmaaGreatDoor.Sx
set_option linter.unusedVariables false
set_option linter.unusedSimpArgs false
theorem open_Signed {w : World} {vs : List Value} {ds : List D0} (h : Reps w vs ds) (hc : ds.map D0.code = [.bool, .ints]) :
    ∃ (a0 : Bool) (a1p : Option Addr) (a1n a1c : Nat) (a1z : List Int), vs = [.bool a0, .slice a1p a1n a1c] ∧ ds = [.bool a0, .ints a1z] ∧ IntsR w a1p a1n a1c a1z := by
  obtain ⟨b0, us, es, hv, hd, h2, hc2⟩ := h.bool hc
  subst hv; subst hd
  clear h hc
  have h := h2; have hc := hc2; clear h2 hc2
  obtain ⟨b1p, b1n, b1c, b1z, us, es, hv, hd, b1h, h2, hc2⟩ := h.ints hc
  subst hv; subst hd
  clear h hc
  have h := h2; have hc := hc2; clear h2 hc2
  obtain ⟨hv, hd⟩ := h.done hc
  subst hv; subst hd; clear h hc
  exact ⟨_, _, _, _, _, rfl, rfl, b1h⟩
theorem laws_szSigned_c {w : World} {vs : List Value} {ds : List D0} (h : Reps w vs ds) (hc : ds.map D0.code = [.bool, .ints]) (hok : ∀ d ∈ ds, d.ok) {left : Int} (h0 : 0 ≤ left) (h1 : left ≤ 1048576) :
    Ret P n_laws_szSigned [.agg ⟨vs⟩, .int .i64 left] w fun v w' => ∃ r : Int, v = .int .i64 r ∧ (0 ≤ r → r + bulks ds ≤ left) ∧ r ≤ 1048576 ∧ Ext w w' := by
  obtain ⟨a0, us, es, hv, hd, h2, hc2⟩ := h.bool hc
  subst hv; subst hd
  clear h hc
  have h := h2; have hc := hc2; clear h2 hc2
  obtain ⟨a1p, a1n, a1c, a1z, us, es, hv, hd, a1h, h2, hc2⟩ := h.ints hc
  subst hv; subst hd
  clear h hc
  have h := h2; have hc := hc2; clear h2 hc2
  obtain ⟨hv, hd⟩ := h.done hc
  subst hv; subst hd; clear h hc
  simp only [List.mem_cons, List.not_mem_nil, or_false, forall_eq_or_imp, forall_eq, D0.ok] at hok
  have a1l := a1h.1; have a1k := a1h.2.1; have a1m := a1h.2.2.1
  simp only [bulks, D0.bulk, List.map_cons, List.map_nil, List.sum_cons, List.sum_nil]
  refine laws_szSigned_ret ?_
  unfold laws_szSigned
  intro r w1 hn1
  have x := hn1.ext; have b0 := hn1.blk
  refine ⟨_, _, _, b0.load (by kernel_rfl) rfl, ?_⟩
  refine Ret.at (laws_szIntS_c (by omega) (by omega) (by omega)) ?_
  rintro v w2 ⟨k0, hv, hk0, hm0, y⟩
  subst hv
  have x := x.trans y; have b0 := b0.ext y
  refine ⟨_, rfl, ifD (fun hl => ⟨_, rfl, by omega, by omega, x⟩) (fun hl => ?_)⟩
  exact ⟨_, rfl, by omega, by omega, x⟩
theorem laws_toSigned_c {w : World} {vs : List Value} {ds : List D0} (h : Reps w vs ds) (hc : ds.map D0.code = [.bool, .ints]) (hb : bulks ds ≤ 1048576) :
    Ret P n_laws_toSigned [.agg ⟨vs⟩] w fun v w' => ∃ vs' f, v = .agg ⟨vs'⟩ ∧ Owns w' w.heap.size vs' ds f ∧ f.Nodup ∧ Ext w w' := by
  obtain ⟨a0, us, es, hv, hd, h2, hc2⟩ := h.bool hc
  subst hv; subst hd
  clear h hc
  have h := h2; have hc := hc2; clear h2 hc2
  obtain ⟨a1p, a1n, a1c, a1z, us, es, hv, hd, a1h, h2, hc2⟩ := h.ints hc
  subst hv; subst hd
  clear h hc
  have h := h2; have hc := hc2; clear h2 hc2
  obtain ⟨hv, hd⟩ := h.done hc
  subst hv; subst hd; clear h hc
  simp only [bulks, D0.bulk, List.map_cons, List.map_nil, List.sum_cons, List.sum_nil] at hb
  have a1l := a1h.1
  refine laws_toSigned_ret ?_
  unfold laws_toSigned
  intro r w1 hn1 r1 w2 hn2 r2 w3 hn3
  have x := (hn1.ext.trans hn2.ext).trans hn3.ext
  have b0 := (hn1.blk.ext hn2.ext).ext hn3.ext
  have b1 := hn2.blk.ext hn3.ext
  have b2 := hn3.blk
  have e1 := hn1.r_eq; have e2 := hn2.r_eq; have e3 := hn3.r_eq; have s1 := hn1.size; have s2 := hn2.size; have s3 := hn3.size
  obtain ⟨w4, st, b2', ch, sz⟩ := b2.store (P := P) (t := T_bool) (k := 0) (v := .bool a0) (by kernel_rfl) (by simp) rfl
  refine ⟨_, b0.load (by kernel_rfl) rfl, _, st, ?_⟩
  have x := x.chg ch (by simp; omega); have b0 := b0.chg ch (by simp; omega); have b1 := b1.chg ch (by simp; omega)
  have b2 : Blk w4 r2 _ [.bool a0, .slice none 0 0] := b2'
  clear b2'
  refine ⟨_, _, _, b0.load (by kernel_rfl) rfl, ?_⟩
  refine Ret.at (laws_toIntS_c (a1h.ext x) (by omega)) ?_
  rintro v w5 ⟨q0, hv, o0, y⟩
  subst hv
  refine ⟨_, _, _, rfl, ?_⟩
  have o0 := Owns.ints o0
  have l0 : ∀ k ∈ _, k < w5.heap.size := fun k hk => (o0.lt k hk).2
  have nd0 : ([q0] : List Nat).Nodup := by simp
  have y0 := y.le; have b0 := b0.ext y; have b1 := b1.ext y; have b2 := b2.ext y; have x := x.trans y
  obtain ⟨w6, st, b2', ch, sz⟩ := b2.store (P := P) (t := T_s_int) (k := 1) (v := .slice (some ⟨q0, 0, none⟩) a1n a1n) (by kernel_rfl) (by simp) rfl
  refine ⟨_, st, ?_⟩
  have x := x.chg ch (by simp; omega); have b0 := b0.chg ch (by simp; omega); have b1 := b1.chg ch (by simp; omega)
  have b2 : Blk w6 r2 _ [.bool a0, .slice (some ⟨q0, 0, none⟩) a1n a1n] := b2'
  clear b2'
  have o0 := o0.chg1 ch (by omega)
  refine ⟨_, _, _, _, b2.loadA0 (by kernel_rfl), ?_⟩
  have ow : Owns w6 w.heap.size [.bool a0, .slice (some ⟨q0, 0, none⟩) a1n a1n] [.bool a0, .ints a1z] ([] ++ [q0]) := Owns.append (Owns.bool _ _ a0) (o0.mono (by omega))
  obtain ⟨w7, st, b1', ch, sz⟩ := b1.storeA0 (P := P) (t := T_impl_Signed) (xs := [.bool a0, .slice (some ⟨q0, 0, none⟩) a1n a1n]) (by kernel_rfl) rfl ow.reps.cells1
  refine ⟨_, st, _, _, _, _, b1'.loadA0 (by kernel_rfl), [.bool a0, .slice (some ⟨q0, 0, none⟩) a1n a1n], ([] ++ [q0]), rfl, Owns.append (Owns.bool _ _ a0) ((o0.chg1 ch (by omega)).mono (by omega)), ?_, x.chg ch (by simp; omega)⟩
  try simp only [List.nil_append, List.append_nil]
  exact nd0
theorem laws_eqSigned_c {w : World} {xs ys : List Value} {dx dy : List D0} (h : Reps w xs dx) (k : Reps w ys dy) (hc : dx.map D0.code = [.bool, .ints]) (kc : dy.map D0.code = [.bool, .ints]) :
    Ret P n_laws_eqSigned [.agg ⟨xs⟩, .agg ⟨ys⟩] w fun v w' => v = .bool (decide (dx = dy)) ∧ Ext w w' := by
  obtain ⟨a0, us, es, hv, hd, h2, hc2⟩ := h.bool hc
  subst hv; subst hd
  clear h hc
  have h := h2; have hc := hc2; clear h2 hc2
  obtain ⟨a1p, a1n, a1c, a1z, us, es, hv, hd, a1h, h2, hc2⟩ := h.ints hc
  subst hv; subst hd
  clear h hc
  have h := h2; have hc := hc2; clear h2 hc2
  obtain ⟨hv, hd⟩ := h.done hc
  subst hv; subst hd; clear h hc
  obtain ⟨bb0, us, es, hv, hd, k2, kc2⟩ := k.bool kc
  subst hv; subst hd
  clear k kc
  have k := k2; have kc := kc2; clear k2 kc2
  obtain ⟨bb1p, bb1n, bb1c, bb1z, us, es, hv, hd, bb1h, k2, kc2⟩ := k.ints kc
  subst hv; subst hd
  clear k kc
  have k := k2; have kc := kc2; clear k2 kc2
  obtain ⟨hv, hd⟩ := k.done kc
  subst hv; subst hd; clear k kc
  refine laws_eqSigned_ret ?_
  unfold laws_eqSigned
  intro r w1 hn1 r1 w2 hn2
  have x := hn1.ext.trans hn2.ext
  have b0 := hn1.blk.ext hn2.ext
  have b1 := hn2.blk
  refine ⟨_, b0.load (by kernel_rfl) rfl, _, b1.load (by kernel_rfl) rfl, ?_⟩
  refine ifN (fun hne => ⟨dec_no (fun e => ?_), x⟩) (fun heq => ?_)
  · have e2 := congrArg (fun l : List D0 => (l.drop 0).take 1) e
    simp at e2; simp [e2] at hne
  have heq : a0 = bb0 := by simpa using heq
  subst heq
  refine ⟨_, _, _, b0.load (by kernel_rfl) rfl, _, _, _, b1.load (by kernel_rfl) rfl, ?_⟩
  refine Ret.at (laws_eqIntS_c (a1h.ext x) (bb1h.ext x)) ?_
  rintro v w3 ⟨hv, y⟩
  subst hv
  have x := x.trans y; have b0 := b0.ext y; have b1 := b1.ext y
  refine ⟨_, rfl, ifN (fun hne => ⟨dec_no (fun e => ?_), x⟩) (fun heq => ?_)⟩
  · have e2 := congrArg (fun l : List D0 => (l.drop 1).take 1) e
    have hne := of_decide_eq_false hne; simp at e2; exact hne e2
  have heq := of_decide_eq_true heq
  subst heq
  exact ⟨dec_yes rfl, x⟩
theorem open_Rat {w : World} {vs : List Value} {ds : List D0} (h : Reps w vs ds) (hc : ds.map D0.code = [.bool, .ints, .ints]) :
    ∃ (a0 : Bool) (a1p : Option Addr) (a1n a1c : Nat) (a1z : List Int) (a2p : Option Addr) (a2n a2c : Nat) (a2z : List Int), vs = [.bool a0, .slice a1p a1n a1c, .slice a2p a2n a2c] ∧ ds = [.bool a0, .ints a1z, .ints a2z] ∧ IntsR w a1p a1n a1c a1z ∧ IntsR w a2p a2n a2c a2z := by
  obtain ⟨b0, us, es, hv, hd, h2, hc2⟩ := h.bool hc
  subst hv; subst hd
  clear h hc
  have h := h2; have hc := hc2; clear h2 hc2
  obtain ⟨b1p, b1n, b1c, b1z, us, es, hv, hd, b1h, h2, hc2⟩ := h.ints hc
  subst hv; subst hd
  clear h hc
  have h := h2; have hc := hc2; clear h2 hc2
  obtain ⟨b2p, b2n, b2c, b2z, us, es, hv, hd, b2h, h2, hc2⟩ := h.ints hc
  subst hv; subst hd
  clear h hc
  have h := h2; have hc := hc2; clear h2 hc2
  obtain ⟨hv, hd⟩ := h.done hc
  subst hv; subst hd; clear h hc
  exact ⟨_, _, _, _, _, _, _, _, _, rfl, rfl, b1h, b2h⟩
theorem open_Dec {w : World} {vs : List Value} {ds : List D0} (h : Reps w vs ds) (hc : ds.map D0.code = [.bool, .ints, .int]) :
    ∃ (a0 : Bool) (a1p : Option Addr) (a1n a1c : Nat) (a1z : List Int) (a2 : Int), vs = [.bool a0, .slice a1p a1n a1c, .int .i64 a2] ∧ ds = [.bool a0, .ints a1z, .int a2] ∧ IntsR w a1p a1n a1c a1z := by
  obtain ⟨b0, us, es, hv, hd, h2, hc2⟩ := h.bool hc
  subst hv; subst hd
  clear h hc
  have h := h2; have hc := hc2; clear h2 hc2
  obtain ⟨b1p, b1n, b1c, b1z, us, es, hv, hd, b1h, h2, hc2⟩ := h.ints hc
  subst hv; subst hd
  clear h hc
  have h := h2; have hc := hc2; clear h2 hc2
  obtain ⟨b2, us, es, hv, hd, h2, hc2⟩ := h.int hc
  subst hv; subst hd
  clear h hc
  have h := h2; have hc := hc2; clear h2 hc2
  obtain ⟨hv, hd⟩ := h.done hc
  subst hv; subst hd; clear h hc
  exact ⟨_, _, _, _, _, _, rfl, rfl, b1h⟩
theorem laws_szDec_c {w : World} {vs : List Value} {ds : List D0} (h : Reps w vs ds) (hc : ds.map D0.code = [.bool, .ints, .int]) (hok : ∀ d ∈ ds, d.ok) {left : Int} (h0 : 0 ≤ left) (h1 : left ≤ 1048576) :
    Ret P n_laws_szDec [.agg ⟨vs⟩, .int .i64 left] w fun v w' => ∃ r : Int, v = .int .i64 r ∧ (0 ≤ r → r + bulks ds ≤ left) ∧ r ≤ 1048576 ∧ Ext w w' := by
  obtain ⟨a0, us, es, hv, hd, h2, hc2⟩ := h.bool hc
  subst hv; subst hd
  clear h hc
  have h := h2; have hc := hc2; clear h2 hc2
  obtain ⟨a1p, a1n, a1c, a1z, us, es, hv, hd, a1h, h2, hc2⟩ := h.ints hc
  subst hv; subst hd
  clear h hc
  have h := h2; have hc := hc2; clear h2 hc2
  obtain ⟨a2, us, es, hv, hd, h2, hc2⟩ := h.int hc
  subst hv; subst hd
  clear h hc
  have h := h2; have hc := hc2; clear h2 hc2
  obtain ⟨hv, hd⟩ := h.done hc
  subst hv; subst hd; clear h hc
  simp only [List.mem_cons, List.not_mem_nil, or_false, forall_eq_or_imp, forall_eq, D0.ok] at hok
  have a1l := a1h.1; have a1k := a1h.2.1; have a1m := a1h.2.2.1
  simp only [bulks, D0.bulk, List.map_cons, List.map_nil, List.sum_cons, List.sum_nil]
  refine laws_szDec_ret ?_
  unfold laws_szDec
  intro r w1 hn1
  have x := hn1.ext; have b0 := hn1.blk
  have hr : Reps w [.bool a0, .slice a1p a1n a1c] [.bool a0, .ints a1z] := ⟨rfl, ⟨⟨_, _, _, rfl, a1h⟩, trivial⟩⟩
  refine ⟨_, _, _, _, b0.loadA (xs := [.bool a0, .slice a1p a1n a1c]) (by kernel_rfl) rfl, ?_⟩
  refine Ret.at (laws_szSigned_c (hr.ext x) rfl (by simp only [List.mem_cons, List.not_mem_nil, or_false, forall_eq_or_imp, forall_eq, D0.ok]; simp only [hok, and_self]) (by omega) (by omega)) ?_
  rintro v w2 ⟨k0, hv, hk0, hm0, y⟩
  simp only [bulks, D0.bulk, List.map_cons, List.map_nil, List.sum_cons, List.sum_nil] at hk0
  subst hv
  have x := x.trans y; have b0 := b0.ext y
  refine ⟨_, rfl, ifD (fun hl => ⟨_, rfl, by omega, by omega, x⟩) (fun hl => ?_)⟩
  exact ⟨_, rfl, by omega, by omega, x⟩
theorem laws_toDec_c {w : World} {vs : List Value} {ds : List D0} (h : Reps w vs ds) (hc : ds.map D0.code = [.bool, .ints, .int]) (hb : bulks ds ≤ 1048576) :
    Ret P n_laws_toDec [.agg ⟨vs⟩] w fun v w' => ∃ vs' f, v = .agg ⟨vs'⟩ ∧ Owns w' w.heap.size vs' ds f ∧ f.Nodup ∧ Ext w w' := by
  obtain ⟨a0, us, es, hv, hd, h2, hc2⟩ := h.bool hc
  subst hv; subst hd
  clear h hc
  have h := h2; have hc := hc2; clear h2 hc2
  obtain ⟨a1p, a1n, a1c, a1z, us, es, hv, hd, a1h, h2, hc2⟩ := h.ints hc
  subst hv; subst hd
  clear h hc
  have h := h2; have hc := hc2; clear h2 hc2
  obtain ⟨a2, us, es, hv, hd, h2, hc2⟩ := h.int hc
  subst hv; subst hd
  clear h hc
  have h := h2; have hc := hc2; clear h2 hc2
  obtain ⟨hv, hd⟩ := h.done hc
  subst hv; subst hd; clear h hc
  simp only [bulks, D0.bulk, List.map_cons, List.map_nil, List.sum_cons, List.sum_nil] at hb
  have a1l := a1h.1
  refine laws_toDec_ret ?_
  unfold laws_toDec
  intro r w1 hn1 r1 w2 hn2 r2 w3 hn3
  have x := (hn1.ext.trans hn2.ext).trans hn3.ext
  have b0 := (hn1.blk.ext hn2.ext).ext hn3.ext
  have b1 := hn2.blk.ext hn3.ext
  have b2 := hn3.blk
  have e1 := hn1.r_eq; have e2 := hn2.r_eq; have e3 := hn3.r_eq; have s1 := hn1.size; have s2 := hn2.size; have s3 := hn3.size
  have hr : Reps w [.bool a0, .slice a1p a1n a1c] [.bool a0, .ints a1z] := ⟨rfl, ⟨⟨_, _, _, rfl, a1h⟩, trivial⟩⟩
  refine ⟨_, _, _, _, b0.loadA (xs := [.bool a0, .slice a1p a1n a1c]) (by kernel_rfl) rfl, ?_⟩
  refine Ret.at (laws_toSigned_c (hr.ext x) rfl (by simp only [bulks, D0.bulk, List.map_cons, List.map_nil, List.sum_cons, List.sum_nil]; omega)) ?_
  rintro v w4 ⟨us0, f0, hv, o0, nd0, y⟩
  subst hv
  have hq := o0.reps; have hqc : ([.bool a0, .ints a1z] : List D0).map D0.code = [.bool, .ints] := rfl
  obtain ⟨q00, us, es, hv, hd, hq2, hqc2⟩ := hq.bool hqc
  subst hv; cases hd; clear hq hqc; have hq := hq2; have hqc := hqc2; clear hq2 hqc2
  obtain ⟨q01p, q01n, q01c, q01z, us, es, hv, hd, q01h, hq2, hqc2⟩ := hq.ints hqc
  subst hv; cases hd; clear hq hqc; have hq := hq2; have hqc := hqc2; clear hq2 hqc2
  obtain ⟨hv, _⟩ := hq.done hqc; subst hv; clear hq hqc
  refine ⟨_, _, _, _, rfl, ?_⟩
  have l0 : ∀ k ∈ _, k < w4.heap.size := fun k hk => (o0.lt k hk).2
  have y0 := y.le; have b0 := b0.ext y; have b1 := b1.ext y; have b2 := b2.ext y; have x := x.trans y
  obtain ⟨w5, st, b2', ch, sz⟩ := b2.storeA (P := P) (t := T_impl_Signed) (k := 0) (xs := [.bool a0, .slice q01p q01n q01c]) (by kernel_rfl) (by simp) o0.reps.cells1
  refine ⟨_, st, ?_⟩
  have x := x.chg ch (by simp; omega); have b0 := b0.chg ch (by simp; omega); have b1 := b1.chg ch (by simp; omega)
  have b2 : Blk w5 r2 _ [.bool a0, .slice q01p q01n q01c, .int .i64 0] := b2'
  clear b2'
  have o0 := o0.chg1 ch (by omega)
  obtain ⟨w6, st, b2', ch, sz⟩ := b2.store (P := P) (t := T_int) (k := 2) (v := .int .i64 a2) (by kernel_rfl) (by simp) rfl
  refine ⟨_, b0.load (by kernel_rfl) rfl, _, st, ?_⟩
  have x := x.chg ch (by simp; omega); have b0 := b0.chg ch (by simp; omega); have b1 := b1.chg ch (by simp; omega)
  have b2 : Blk w6 r2 _ [.bool a0, .slice q01p q01n q01c, .int .i64 a2] := b2'
  clear b2'
  have o0 := o0.chg1 ch (by omega)
  refine ⟨_, _, _, _, _, b2.loadA0 (by kernel_rfl), ?_⟩
  have ow : Owns w6 w.heap.size [.bool a0, .slice q01p q01n q01c, .int .i64 a2] [.bool a0, .ints a1z, .int a2] (f0 ++ []) := Owns.append (o0.mono (by omega)) (Owns.int _ _ a2)
  obtain ⟨w7, st, b1', ch, sz⟩ := b1.storeA0 (P := P) (t := T_impl_Dec) (xs := [.bool a0, .slice q01p q01n q01c, .int .i64 a2]) (by kernel_rfl) rfl ow.reps.cells1
  refine ⟨_, st, _, _, _, _, _, b1'.loadA0 (by kernel_rfl), [.bool a0, .slice q01p q01n q01c, .int .i64 a2], (f0 ++ []), rfl, Owns.append ((o0.chg1 ch (by omega)).mono (by omega)) (Owns.int _ _ a2), ?_, x.chg ch (by simp; omega)⟩
  try simp only [List.nil_append, List.append_nil]
  exact nd0
theorem laws_eqDec_c {w : World} {xs ys : List Value} {dx dy : List D0} (h : Reps w xs dx) (k : Reps w ys dy) (hc : dx.map D0.code = [.bool, .ints, .int]) (kc : dy.map D0.code = [.bool, .ints, .int]) :
    Ret P n_laws_eqDec [.agg ⟨xs⟩, .agg ⟨ys⟩] w fun v w' => v = .bool (decide (dx = dy)) ∧ Ext w w' := by
  obtain ⟨a0, us, es, hv, hd, h2, hc2⟩ := h.bool hc
  subst hv; subst hd
  clear h hc
  have h := h2; have hc := hc2; clear h2 hc2
  obtain ⟨a1p, a1n, a1c, a1z, us, es, hv, hd, a1h, h2, hc2⟩ := h.ints hc
  subst hv; subst hd
  clear h hc
  have h := h2; have hc := hc2; clear h2 hc2
  obtain ⟨a2, us, es, hv, hd, h2, hc2⟩ := h.int hc
  subst hv; subst hd
  clear h hc
  have h := h2; have hc := hc2; clear h2 hc2
  obtain ⟨hv, hd⟩ := h.done hc
  subst hv; subst hd; clear h hc
  obtain ⟨bb0, us, es, hv, hd, k2, kc2⟩ := k.bool kc
  subst hv; subst hd
  clear k kc
  have k := k2; have kc := kc2; clear k2 kc2
  obtain ⟨bb1p, bb1n, bb1c, bb1z, us, es, hv, hd, bb1h, k2, kc2⟩ := k.ints kc
  subst hv; subst hd
  clear k kc
  have k := k2; have kc := kc2; clear k2 kc2
  obtain ⟨bb2, us, es, hv, hd, k2, kc2⟩ := k.int kc
  subst hv; subst hd
  clear k kc
  have k := k2; have kc := kc2; clear k2 kc2
  obtain ⟨hv, hd⟩ := k.done kc
  subst hv; subst hd; clear k kc
  refine laws_eqDec_ret ?_
  unfold laws_eqDec
  intro r w1 hn1 r1 w2 hn2
  have x := hn1.ext.trans hn2.ext
  have b0 := hn1.blk.ext hn2.ext
  have b1 := hn2.blk
  have ha : Reps w [.bool a0, .slice a1p a1n a1c] [.bool a0, .ints a1z] := ⟨rfl, ⟨⟨_, _, _, rfl, a1h⟩, trivial⟩⟩
  have hb : Reps w [.bool bb0, .slice bb1p bb1n bb1c] [.bool bb0, .ints bb1z] := ⟨rfl, ⟨⟨_, _, _, rfl, bb1h⟩, trivial⟩⟩
  refine ⟨_, _, _, _, b0.loadA (xs := [.bool a0, .slice a1p a1n a1c]) (by kernel_rfl) rfl, _, _, _, _, b1.loadA (xs := [.bool bb0, .slice bb1p bb1n bb1c]) (by kernel_rfl) rfl, ?_⟩
  refine Ret.at (laws_eqSigned_c (ha.ext x) (hb.ext x) rfl rfl) ?_
  rintro v w3 ⟨hv, y⟩
  subst hv
  have x := x.trans y; have b0 := b0.ext y; have b1 := b1.ext y
  refine ⟨_, rfl, ifN (fun hne => ⟨dec_no (fun e => ?_), x⟩) (fun heq => ?_)⟩
  · have e2 := congrArg (fun l : List D0 => (l.drop 0).take 2) e
    exact of_decide_eq_false hne e2
  have heq := of_decide_eq_true heq
  cases heq
  refine ⟨_, b0.load (by kernel_rfl) rfl, _, b1.load (by kernel_rfl) rfl, ?_⟩
  refine ifD (fun hne => ⟨dec_no (fun e => ?_), x⟩) (fun heq => ?_)
  · have e2 := congrArg (fun l : List D0 => (l.drop 2).take 1) e
    simp at e2; exact hne e2
  have heq : a2 = bb2 := by simpa using heq
  subst heq
  exact ⟨dec_yes rfl, x⟩
theorem open_Money {w : World} {vs : List Value} {ds : List D0} (h : Reps w vs ds) (hc : ds.map D0.code = [.str, .bool, .ints]) :
    ∃ (a0 : ByteArray) (a1 : Bool) (a2p : Option Addr) (a2n a2c : Nat) (a2z : List Int), vs = [.string a0, .bool a1, .slice a2p a2n a2c] ∧ ds = [.str a0, .bool a1, .ints a2z] ∧ IntsR w a2p a2n a2c a2z := by
  obtain ⟨b0, us, es, hv, hd, h2, hc2⟩ := h.str hc
  subst hv; subst hd
  clear h hc
  have h := h2; have hc := hc2; clear h2 hc2
  obtain ⟨b1, us, es, hv, hd, h2, hc2⟩ := h.bool hc
  subst hv; subst hd
  clear h hc
  have h := h2; have hc := hc2; clear h2 hc2
  obtain ⟨b2p, b2n, b2c, b2z, us, es, hv, hd, b2h, h2, hc2⟩ := h.ints hc
  subst hv; subst hd
  clear h hc
  have h := h2; have hc := hc2; clear h2 hc2
  obtain ⟨hv, hd⟩ := h.done hc
  subst hv; subst hd; clear h hc
  exact ⟨_, _, _, _, _, _, rfl, rfl, b2h⟩
theorem laws_szMoney_c {w : World} {vs : List Value} {ds : List D0} (h : Reps w vs ds) (hc : ds.map D0.code = [.str, .bool, .ints]) (hok : ∀ d ∈ ds, d.ok) {left : Int} (h0 : 0 ≤ left) (h1 : left ≤ 1048576) :
    Ret P n_laws_szMoney [.agg ⟨vs⟩, .int .i64 left] w fun v w' => ∃ r : Int, v = .int .i64 r ∧ (0 ≤ r → r + bulks ds ≤ left) ∧ r ≤ 1048576 ∧ Ext w w' := by
  obtain ⟨a0, us, es, hv, hd, h2, hc2⟩ := h.str hc
  subst hv; subst hd
  clear h hc
  have h := h2; have hc := hc2; clear h2 hc2
  obtain ⟨a1, us, es, hv, hd, h2, hc2⟩ := h.bool hc
  subst hv; subst hd
  clear h hc
  have h := h2; have hc := hc2; clear h2 hc2
  obtain ⟨a2p, a2n, a2c, a2z, us, es, hv, hd, a2h, h2, hc2⟩ := h.ints hc
  subst hv; subst hd
  clear h hc
  have h := h2; have hc := hc2; clear h2 hc2
  obtain ⟨hv, hd⟩ := h.done hc
  subst hv; subst hd; clear h hc
  simp only [List.mem_cons, List.not_mem_nil, or_false, forall_eq_or_imp, forall_eq, D0.ok] at hok
  have a2l := a2h.1; have a2k := a2h.2.1; have a2m := a2h.2.2.1
  simp only [bulks, D0.bulk, List.map_cons, List.map_nil, List.sum_cons, List.sum_nil]
  refine laws_szMoney_ret ?_
  unfold laws_szMoney
  intro r w1 hn1
  have x := hn1.ext; have b0 := hn1.blk
  refine ⟨_, b0.load (by kernel_rfl) rfl, exW ⟨by omega, by omega⟩ (ifD (fun hl => ⟨_, rfl, by omega, by omega, x⟩) (fun hl => ?_))⟩
  have hr : Reps w [.bool a1, .slice a2p a2n a2c] [.bool a1, .ints a2z] := ⟨rfl, ⟨⟨_, _, _, rfl, a2h⟩, trivial⟩⟩
  refine ⟨_, _, _, _, b0.loadA (xs := [.bool a1, .slice a2p a2n a2c]) (by kernel_rfl) rfl, ?_⟩
  refine Ret.at (laws_szSigned_c (hr.ext x) rfl (by simp only [List.mem_cons, List.not_mem_nil, or_false, forall_eq_or_imp, forall_eq, D0.ok]; simp only [hok, and_self]) (by omega) (by omega)) ?_
  rintro v w2 ⟨k0, hv, hk0, hm0, y⟩
  simp only [bulks, D0.bulk, List.map_cons, List.map_nil, List.sum_cons, List.sum_nil] at hk0
  subst hv
  have x := x.trans y; have b0 := b0.ext y
  refine ⟨_, rfl, ifD (fun hl => ⟨_, rfl, by omega, by omega, x⟩) (fun hl => ?_)⟩
  exact ⟨_, rfl, by omega, by omega, x⟩
theorem laws_toMoney_c {w : World} {vs : List Value} {ds : List D0} (h : Reps w vs ds) (hc : ds.map D0.code = [.str, .bool, .ints]) (hb : bulks ds ≤ 1048576) :
    Ret P n_laws_toMoney [.agg ⟨vs⟩] w fun v w' => ∃ vs' f, v = .agg ⟨vs'⟩ ∧ Owns w' w.heap.size vs' ds f ∧ f.Nodup ∧ Ext w w' := by
  obtain ⟨a0, us, es, hv, hd, h2, hc2⟩ := h.str hc
  subst hv; subst hd
  clear h hc
  have h := h2; have hc := hc2; clear h2 hc2
  obtain ⟨a1, us, es, hv, hd, h2, hc2⟩ := h.bool hc
  subst hv; subst hd
  clear h hc
  have h := h2; have hc := hc2; clear h2 hc2
  obtain ⟨a2p, a2n, a2c, a2z, us, es, hv, hd, a2h, h2, hc2⟩ := h.ints hc
  subst hv; subst hd
  clear h hc
  have h := h2; have hc := hc2; clear h2 hc2
  obtain ⟨hv, hd⟩ := h.done hc
  subst hv; subst hd; clear h hc
  simp only [bulks, D0.bulk, List.map_cons, List.map_nil, List.sum_cons, List.sum_nil] at hb
  have a2l := a2h.1
  refine laws_toMoney_ret ?_
  unfold laws_toMoney
  intro r w1 hn1 r1 w2 hn2 r2 w3 hn3
  have x := (hn1.ext.trans hn2.ext).trans hn3.ext
  have b0 := (hn1.blk.ext hn2.ext).ext hn3.ext
  have b1 := hn2.blk.ext hn3.ext
  have b2 := hn3.blk
  have e1 := hn1.r_eq; have e2 := hn2.r_eq; have e3 := hn3.r_eq; have s1 := hn1.size; have s2 := hn2.size; have s3 := hn3.size
  obtain ⟨w4, st, b2', ch, sz⟩ := b2.store (P := P) (t := T_string) (k := 0) (v := .string a0) (by kernel_rfl) (by simp) rfl
  refine ⟨_, b0.load (by kernel_rfl) rfl, _, st, ?_⟩
  have x := x.chg ch (by simp; omega); have b0 := b0.chg ch (by simp; omega); have b1 := b1.chg ch (by simp; omega)
  have b2 : Blk w4 r2 _ [.string a0, .bool false, .slice none 0 0] := b2'
  clear b2'
  have hr : Reps w [.bool a1, .slice a2p a2n a2c] [.bool a1, .ints a2z] := ⟨rfl, ⟨⟨_, _, _, rfl, a2h⟩, trivial⟩⟩
  refine ⟨_, _, _, _, b0.loadA (xs := [.bool a1, .slice a2p a2n a2c]) (by kernel_rfl) rfl, ?_⟩
  refine Ret.at (laws_toSigned_c (hr.ext x) rfl (by simp only [bulks, D0.bulk, List.map_cons, List.map_nil, List.sum_cons, List.sum_nil]; omega)) ?_
  rintro v w5 ⟨us0, f0, hv, o0, nd0, y⟩
  subst hv
  have hq := o0.reps; have hqc : ([.bool a1, .ints a2z] : List D0).map D0.code = [.bool, .ints] := rfl
  obtain ⟨q00, us, es, hv, hd, hq2, hqc2⟩ := hq.bool hqc
  subst hv; cases hd; clear hq hqc; have hq := hq2; have hqc := hqc2; clear hq2 hqc2
  obtain ⟨q01p, q01n, q01c, q01z, us, es, hv, hd, q01h, hq2, hqc2⟩ := hq.ints hqc
  subst hv; cases hd; clear hq hqc; have hq := hq2; have hqc := hqc2; clear hq2 hqc2
  obtain ⟨hv, _⟩ := hq.done hqc; subst hv; clear hq hqc
  refine ⟨_, _, _, _, rfl, ?_⟩
  have l0 : ∀ k ∈ _, k < w5.heap.size := fun k hk => (o0.lt k hk).2
  have y0 := y.le; have b0 := b0.ext y; have b1 := b1.ext y; have b2 := b2.ext y; have x := x.trans y
  obtain ⟨w6, st, b2', ch, sz⟩ := b2.storeA (P := P) (t := T_impl_Signed) (k := 1) (xs := [.bool a1, .slice q01p q01n q01c]) (by kernel_rfl) (by simp) o0.reps.cells1
  refine ⟨_, st, ?_⟩
  have x := x.chg ch (by simp; omega); have b0 := b0.chg ch (by simp; omega); have b1 := b1.chg ch (by simp; omega)
  have b2 : Blk w6 r2 _ [.string a0, .bool a1, .slice q01p q01n q01c] := b2'
  clear b2'
  have o0 := o0.chg1 ch (by omega)
  refine ⟨_, _, _, _, _, b2.loadA0 (by kernel_rfl), ?_⟩
  have ow : Owns w6 w.heap.size [.string a0, .bool a1, .slice q01p q01n q01c] [.str a0, .bool a1, .ints a2z] ([] ++ f0) := Owns.append (Owns.str _ _ a0) (o0.mono (by omega))
  obtain ⟨w7, st, b1', ch, sz⟩ := b1.storeA0 (P := P) (t := T_impl_Money) (xs := [.string a0, .bool a1, .slice q01p q01n q01c]) (by kernel_rfl) rfl ow.reps.cells1
  refine ⟨_, st, _, _, _, _, _, b1'.loadA0 (by kernel_rfl), [.string a0, .bool a1, .slice q01p q01n q01c], ([] ++ f0), rfl, Owns.append (Owns.str _ _ a0) ((o0.chg1 ch (by omega)).mono (by omega)), ?_, x.chg ch (by simp; omega)⟩
  try simp only [List.nil_append, List.append_nil]
  exact nd0
theorem laws_eqMoney_c {w : World} {xs ys : List Value} {dx dy : List D0} (h : Reps w xs dx) (k : Reps w ys dy) (hc : dx.map D0.code = [.str, .bool, .ints]) (kc : dy.map D0.code = [.str, .bool, .ints]) :
    Ret P n_laws_eqMoney [.agg ⟨xs⟩, .agg ⟨ys⟩] w fun v w' => v = .bool (decide (dx = dy)) ∧ Ext w w' := by
  obtain ⟨a0, us, es, hv, hd, h2, hc2⟩ := h.str hc
  subst hv; subst hd
  clear h hc
  have h := h2; have hc := hc2; clear h2 hc2
  obtain ⟨a1, us, es, hv, hd, h2, hc2⟩ := h.bool hc
  subst hv; subst hd
  clear h hc
  have h := h2; have hc := hc2; clear h2 hc2
  obtain ⟨a2p, a2n, a2c, a2z, us, es, hv, hd, a2h, h2, hc2⟩ := h.ints hc
  subst hv; subst hd
  clear h hc
  have h := h2; have hc := hc2; clear h2 hc2
  obtain ⟨hv, hd⟩ := h.done hc
  subst hv; subst hd; clear h hc
  obtain ⟨bb0, us, es, hv, hd, k2, kc2⟩ := k.str kc
  subst hv; subst hd
  clear k kc
  have k := k2; have kc := kc2; clear k2 kc2
  obtain ⟨bb1, us, es, hv, hd, k2, kc2⟩ := k.bool kc
  subst hv; subst hd
  clear k kc
  have k := k2; have kc := kc2; clear k2 kc2
  obtain ⟨bb2p, bb2n, bb2c, bb2z, us, es, hv, hd, bb2h, k2, kc2⟩ := k.ints kc
  subst hv; subst hd
  clear k kc
  have k := k2; have kc := kc2; clear k2 kc2
  obtain ⟨hv, hd⟩ := k.done kc
  subst hv; subst hd; clear k kc
  refine laws_eqMoney_ret ?_
  unfold laws_eqMoney
  intro r w1 hn1 r1 w2 hn2
  have x := hn1.ext.trans hn2.ext
  have b0 := hn1.blk.ext hn2.ext
  have b1 := hn2.blk
  refine ⟨_, b0.load (by kernel_rfl) rfl, _, b1.load (by kernel_rfl) rfl, ?_⟩
  refine ifD (fun hne => ⟨dec_no (fun e => ?_), x⟩) (fun heq => ?_)
  · have e2 := congrArg (fun l : List D0 => (l.drop 0).take 1) e
    simp at e2; exact hne e2
  have heq : a0 = bb0 := by simpa using heq
  subst heq
  have ha : Reps w [.bool a1, .slice a2p a2n a2c] [.bool a1, .ints a2z] := ⟨rfl, ⟨⟨_, _, _, rfl, a2h⟩, trivial⟩⟩
  have hb : Reps w [.bool bb1, .slice bb2p bb2n bb2c] [.bool bb1, .ints bb2z] := ⟨rfl, ⟨⟨_, _, _, rfl, bb2h⟩, trivial⟩⟩
  refine ⟨_, _, _, _, b0.loadA (xs := [.bool a1, .slice a2p a2n a2c]) (by kernel_rfl) rfl, _, _, _, _, b1.loadA (xs := [.bool bb1, .slice bb2p bb2n bb2c]) (by kernel_rfl) rfl, ?_⟩
  refine Ret.at (laws_eqSigned_c (ha.ext x) (hb.ext x) rfl rfl) ?_
  rintro v w3 ⟨hv, y⟩
  subst hv
  have x := x.trans y; have b0 := b0.ext y; have b1 := b1.ext y
  refine ⟨_, rfl, ifN (fun hne => ⟨dec_no (fun e => ?_), x⟩) (fun heq => ?_)⟩
  · have e2 := congrArg (fun l : List D0 => (l.drop 1).take 2) e
    exact of_decide_eq_false hne e2
  have heq := of_decide_eq_true heq
  cases heq
  exact ⟨dec_yes rfl, x⟩
theorem open_Step {w : World} {vs : List Value} {ds : List D0} (h : Reps w vs ds) (hc : ds.map D0.code = [.int, .bool, .ints, .int]) :
    ∃ (a0 : Int) (a1 : Bool) (a2p : Option Addr) (a2n a2c : Nat) (a2z : List Int) (a3 : Int), vs = [.int .i64 a0, .bool a1, .slice a2p a2n a2c, .int .i64 a3] ∧ ds = [.int a0, .bool a1, .ints a2z, .int a3] ∧ IntsR w a2p a2n a2c a2z := by
  obtain ⟨b0, us, es, hv, hd, h2, hc2⟩ := h.int hc
  subst hv; subst hd
  clear h hc
  have h := h2; have hc := hc2; clear h2 hc2
  obtain ⟨b1, us, es, hv, hd, h2, hc2⟩ := h.bool hc
  subst hv; subst hd
  clear h hc
  have h := h2; have hc := hc2; clear h2 hc2
  obtain ⟨b2p, b2n, b2c, b2z, us, es, hv, hd, b2h, h2, hc2⟩ := h.ints hc
  subst hv; subst hd
  clear h hc
  have h := h2; have hc := hc2; clear h2 hc2
  obtain ⟨b3, us, es, hv, hd, h2, hc2⟩ := h.int hc
  subst hv; subst hd
  clear h hc
  have h := h2; have hc := hc2; clear h2 hc2
  obtain ⟨hv, hd⟩ := h.done hc
  subst hv; subst hd; clear h hc
  exact ⟨_, _, _, _, _, _, _, rfl, rfl, b2h⟩
theorem laws_szStep_c {w : World} {vs : List Value} {ds : List D0} (h : Reps w vs ds) (hc : ds.map D0.code = [.int, .bool, .ints, .int]) (hok : ∀ d ∈ ds, d.ok) {left : Int} (h0 : 0 ≤ left) (h1 : left ≤ 1048576) :
    Ret P n_laws_szStep [.agg ⟨vs⟩, .int .i64 left] w fun v w' => ∃ r : Int, v = .int .i64 r ∧ (0 ≤ r → r + bulks ds ≤ left) ∧ r ≤ 1048576 ∧ Ext w w' := by
  obtain ⟨a0, us, es, hv, hd, h2, hc2⟩ := h.int hc
  subst hv; subst hd
  clear h hc
  have h := h2; have hc := hc2; clear h2 hc2
  obtain ⟨a1, us, es, hv, hd, h2, hc2⟩ := h.bool hc
  subst hv; subst hd
  clear h hc
  have h := h2; have hc := hc2; clear h2 hc2
  obtain ⟨a2p, a2n, a2c, a2z, us, es, hv, hd, a2h, h2, hc2⟩ := h.ints hc
  subst hv; subst hd
  clear h hc
  have h := h2; have hc := hc2; clear h2 hc2
  obtain ⟨a3, us, es, hv, hd, h2, hc2⟩ := h.int hc
  subst hv; subst hd
  clear h hc
  have h := h2; have hc := hc2; clear h2 hc2
  obtain ⟨hv, hd⟩ := h.done hc
  subst hv; subst hd; clear h hc
  simp only [List.mem_cons, List.not_mem_nil, or_false, forall_eq_or_imp, forall_eq, D0.ok] at hok
  have a2l := a2h.1; have a2k := a2h.2.1; have a2m := a2h.2.2.1
  simp only [bulks, D0.bulk, List.map_cons, List.map_nil, List.sum_cons, List.sum_nil]
  refine laws_szStep_ret ?_
  unfold laws_szStep
  intro r w1 hn1
  have x := hn1.ext; have b0 := hn1.blk
  have hr : Reps w [.bool a1, .slice a2p a2n a2c, .int .i64 a3] [.bool a1, .ints a2z, .int a3] := ⟨rfl, ⟨⟨_, _, _, rfl, a2h⟩, ⟨rfl, trivial⟩⟩⟩
  refine ⟨_, _, _, _, _, b0.loadA (xs := [.bool a1, .slice a2p a2n a2c, .int .i64 a3]) (by kernel_rfl) rfl, ?_⟩
  refine Ret.at (laws_szDec_c (hr.ext x) rfl (by simp only [List.mem_cons, List.not_mem_nil, or_false, forall_eq_or_imp, forall_eq, D0.ok]; simp only [hok, and_self]) (by omega) (by omega)) ?_
  rintro v w2 ⟨k0, hv, hk0, hm0, y⟩
  simp only [bulks, D0.bulk, List.map_cons, List.map_nil, List.sum_cons, List.sum_nil] at hk0
  subst hv
  have x := x.trans y; have b0 := b0.ext y
  refine ⟨_, rfl, ifD (fun hl => ⟨_, rfl, by omega, by omega, x⟩) (fun hl => ?_)⟩
  exact ⟨_, rfl, by omega, by omega, x⟩
theorem laws_toStep_c {w : World} {vs : List Value} {ds : List D0} (h : Reps w vs ds) (hc : ds.map D0.code = [.int, .bool, .ints, .int]) (hb : bulks ds ≤ 1048576) :
    Ret P n_laws_toStep [.agg ⟨vs⟩] w fun v w' => ∃ vs' f, v = .agg ⟨vs'⟩ ∧ Owns w' w.heap.size vs' ds f ∧ f.Nodup ∧ Ext w w' := by
  obtain ⟨a0, us, es, hv, hd, h2, hc2⟩ := h.int hc
  subst hv; subst hd
  clear h hc
  have h := h2; have hc := hc2; clear h2 hc2
  obtain ⟨a1, us, es, hv, hd, h2, hc2⟩ := h.bool hc
  subst hv; subst hd
  clear h hc
  have h := h2; have hc := hc2; clear h2 hc2
  obtain ⟨a2p, a2n, a2c, a2z, us, es, hv, hd, a2h, h2, hc2⟩ := h.ints hc
  subst hv; subst hd
  clear h hc
  have h := h2; have hc := hc2; clear h2 hc2
  obtain ⟨a3, us, es, hv, hd, h2, hc2⟩ := h.int hc
  subst hv; subst hd
  clear h hc
  have h := h2; have hc := hc2; clear h2 hc2
  obtain ⟨hv, hd⟩ := h.done hc
  subst hv; subst hd; clear h hc
  simp only [bulks, D0.bulk, List.map_cons, List.map_nil, List.sum_cons, List.sum_nil] at hb
  have a2l := a2h.1
  refine laws_toStep_ret ?_
  unfold laws_toStep
  intro r w1 hn1 r1 w2 hn2 r2 w3 hn3
  have x := (hn1.ext.trans hn2.ext).trans hn3.ext
  have b0 := (hn1.blk.ext hn2.ext).ext hn3.ext
  have b1 := hn2.blk.ext hn3.ext
  have b2 := hn3.blk
  have e1 := hn1.r_eq; have e2 := hn2.r_eq; have e3 := hn3.r_eq; have s1 := hn1.size; have s2 := hn2.size; have s3 := hn3.size
  obtain ⟨w4, st, b2', ch, sz⟩ := b2.store (P := P) (t := T_int) (k := 0) (v := .int .i64 a0) (by kernel_rfl) (by simp) rfl
  refine ⟨_, b0.load (by kernel_rfl) rfl, _, st, ?_⟩
  have x := x.chg ch (by simp; omega); have b0 := b0.chg ch (by simp; omega); have b1 := b1.chg ch (by simp; omega)
  have b2 : Blk w4 r2 _ [.int .i64 a0, .bool false, .slice none 0 0, .int .i64 0] := b2'
  clear b2'
  have hr : Reps w [.bool a1, .slice a2p a2n a2c, .int .i64 a3] [.bool a1, .ints a2z, .int a3] := ⟨rfl, ⟨⟨_, _, _, rfl, a2h⟩, ⟨rfl, trivial⟩⟩⟩
  refine ⟨_, _, _, _, _, b0.loadA (xs := [.bool a1, .slice a2p a2n a2c, .int .i64 a3]) (by kernel_rfl) rfl, ?_⟩
  refine Ret.at (laws_toDec_c (hr.ext x) rfl (by simp only [bulks, D0.bulk, List.map_cons, List.map_nil, List.sum_cons, List.sum_nil]; omega)) ?_
  rintro v w5 ⟨us0, f0, hv, o0, nd0, y⟩
  subst hv
  have hq := o0.reps; have hqc : ([.bool a1, .ints a2z, .int a3] : List D0).map D0.code = [.bool, .ints, .int] := rfl
  obtain ⟨q00, us, es, hv, hd, hq2, hqc2⟩ := hq.bool hqc
  subst hv; cases hd; clear hq hqc; have hq := hq2; have hqc := hqc2; clear hq2 hqc2
  obtain ⟨q01p, q01n, q01c, q01z, us, es, hv, hd, q01h, hq2, hqc2⟩ := hq.ints hqc
  subst hv; cases hd; clear hq hqc; have hq := hq2; have hqc := hqc2; clear hq2 hqc2
  obtain ⟨q02, us, es, hv, hd, hq2, hqc2⟩ := hq.int hqc
  subst hv; cases hd; clear hq hqc; have hq := hq2; have hqc := hqc2; clear hq2 hqc2
  obtain ⟨hv, _⟩ := hq.done hqc; subst hv; clear hq hqc
  refine ⟨_, _, _, _, _, rfl, ?_⟩
  have l0 : ∀ k ∈ _, k < w5.heap.size := fun k hk => (o0.lt k hk).2
  have y0 := y.le; have b0 := b0.ext y; have b1 := b1.ext y; have b2 := b2.ext y; have x := x.trans y
  obtain ⟨w6, st, b2', ch, sz⟩ := b2.storeA (P := P) (t := T_impl_Dec) (k := 1) (xs := [.bool a1, .slice q01p q01n q01c, .int .i64 a3]) (by kernel_rfl) (by simp) o0.reps.cells1
  refine ⟨_, st, ?_⟩
  have x := x.chg ch (by simp; omega); have b0 := b0.chg ch (by simp; omega); have b1 := b1.chg ch (by simp; omega)
  have b2 : Blk w6 r2 _ [.int .i64 a0, .bool a1, .slice q01p q01n q01c, .int .i64 a3] := b2'
  clear b2'
  have o0 := o0.chg1 ch (by omega)
  refine ⟨_, _, _, _, _, _, b2.loadA0 (by kernel_rfl), ?_⟩
  have ow : Owns w6 w.heap.size [.int .i64 a0, .bool a1, .slice q01p q01n q01c, .int .i64 a3] [.int a0, .bool a1, .ints a2z, .int a3] ([] ++ f0) := Owns.append (Owns.int _ _ a0) (o0.mono (by omega))
  obtain ⟨w7, st, b1', ch, sz⟩ := b1.storeA0 (P := P) (t := T_impl_Step) (xs := [.int .i64 a0, .bool a1, .slice q01p q01n q01c, .int .i64 a3]) (by kernel_rfl) rfl ow.reps.cells1
  refine ⟨_, st, _, _, _, _, _, _, b1'.loadA0 (by kernel_rfl), [.int .i64 a0, .bool a1, .slice q01p q01n q01c, .int .i64 a3], ([] ++ f0), rfl, Owns.append (Owns.int _ _ a0) ((o0.chg1 ch (by omega)).mono (by omega)), ?_, x.chg ch (by simp; omega)⟩
  try simp only [List.nil_append, List.append_nil]
  exact nd0
theorem laws_eqStep_c {w : World} {xs ys : List Value} {dx dy : List D0} (h : Reps w xs dx) (k : Reps w ys dy) (hc : dx.map D0.code = [.int, .bool, .ints, .int]) (kc : dy.map D0.code = [.int, .bool, .ints, .int]) :
    Ret P n_laws_eqStep [.agg ⟨xs⟩, .agg ⟨ys⟩] w fun v w' => v = .bool (decide (dx = dy)) ∧ Ext w w' := by
  obtain ⟨a0, us, es, hv, hd, h2, hc2⟩ := h.int hc
  subst hv; subst hd
  clear h hc
  have h := h2; have hc := hc2; clear h2 hc2
  obtain ⟨a1, us, es, hv, hd, h2, hc2⟩ := h.bool hc
  subst hv; subst hd
  clear h hc
  have h := h2; have hc := hc2; clear h2 hc2
  obtain ⟨a2p, a2n, a2c, a2z, us, es, hv, hd, a2h, h2, hc2⟩ := h.ints hc
  subst hv; subst hd
  clear h hc
  have h := h2; have hc := hc2; clear h2 hc2
  obtain ⟨a3, us, es, hv, hd, h2, hc2⟩ := h.int hc
  subst hv; subst hd
  clear h hc
  have h := h2; have hc := hc2; clear h2 hc2
  obtain ⟨hv, hd⟩ := h.done hc
  subst hv; subst hd; clear h hc
  obtain ⟨bb0, us, es, hv, hd, k2, kc2⟩ := k.int kc
  subst hv; subst hd
  clear k kc
  have k := k2; have kc := kc2; clear k2 kc2
  obtain ⟨bb1, us, es, hv, hd, k2, kc2⟩ := k.bool kc
  subst hv; subst hd
  clear k kc
  have k := k2; have kc := kc2; clear k2 kc2
  obtain ⟨bb2p, bb2n, bb2c, bb2z, us, es, hv, hd, bb2h, k2, kc2⟩ := k.ints kc
  subst hv; subst hd
  clear k kc
  have k := k2; have kc := kc2; clear k2 kc2
  obtain ⟨bb3, us, es, hv, hd, k2, kc2⟩ := k.int kc
  subst hv; subst hd
  clear k kc
  have k := k2; have kc := kc2; clear k2 kc2
  obtain ⟨hv, hd⟩ := k.done kc
  subst hv; subst hd; clear k kc
  refine laws_eqStep_ret ?_
  unfold laws_eqStep
  intro r w1 hn1 r1 w2 hn2
  have x := hn1.ext.trans hn2.ext
  have b0 := hn1.blk.ext hn2.ext
  have b1 := hn2.blk
  refine ⟨_, b0.load (by kernel_rfl) rfl, _, b1.load (by kernel_rfl) rfl, ?_⟩
  refine ifD (fun hne => ⟨dec_no (fun e => ?_), x⟩) (fun heq => ?_)
  · have e2 := congrArg (fun l : List D0 => (l.drop 0).take 1) e
    simp at e2; exact hne e2
  have heq : a0 = bb0 := by simpa using heq
  subst heq
  have ha : Reps w [.bool a1, .slice a2p a2n a2c, .int .i64 a3] [.bool a1, .ints a2z, .int a3] := ⟨rfl, ⟨⟨_, _, _, rfl, a2h⟩, ⟨rfl, trivial⟩⟩⟩
  have hb : Reps w [.bool bb1, .slice bb2p bb2n bb2c, .int .i64 bb3] [.bool bb1, .ints bb2z, .int bb3] := ⟨rfl, ⟨⟨_, _, _, rfl, bb2h⟩, ⟨rfl, trivial⟩⟩⟩
  refine ⟨_, _, _, _, _, b0.loadA (xs := [.bool a1, .slice a2p a2n a2c, .int .i64 a3]) (by kernel_rfl) rfl, _, _, _, _, _, b1.loadA (xs := [.bool bb1, .slice bb2p bb2n bb2c, .int .i64 bb3]) (by kernel_rfl) rfl, ?_⟩
  refine Ret.at (laws_eqDec_c (ha.ext x) (hb.ext x) rfl rfl) ?_
  rintro v w3 ⟨hv, y⟩
  subst hv
  have x := x.trans y; have b0 := b0.ext y; have b1 := b1.ext y
  refine ⟨_, rfl, ifN (fun hne => ⟨dec_no (fun e => ?_), x⟩) (fun heq => ?_)⟩
  · have e2 := congrArg (fun l : List D0 => (l.drop 1).take 3) e
    exact of_decide_eq_false hne e2
  have heq := of_decide_eq_true heq
  cases heq
  exact ⟨dec_yes rfl, x⟩
theorem laws_szStepS_c {w : World} {p : Option Addr} {n c : Nat} {l : List (List D0)} (h : RowsR w 4 p n c l) (hc : ∀ x ∈ l, x.map D0.code = [.int, .bool, .ints, .int]) (hok : ∀ x ∈ l, ∀ d ∈ x, d.ok) {left : Int} (h0 : 0 ≤ left) (h1 : left ≤ 1048576) :
    Ret P n_laws_szStepS [.slice p n c, .int .i64 left] w fun v w' => ∃ r : Int, v = .int .i64 r ∧ (0 ≤ r → r + n + ((l.map bulks).sum : Nat) ≤ left) ∧ r ≤ 1048576 ∧ Ext w w' := by
  refine laws_szStepS_ret ?_
  unfold laws_szStepS
  have hlen := h.1; have hcap := h.2.1; have hcm := h.2.2.1
  refine exW ⟨by omega, by omega⟩ (ifD (fun hl => ⟨_, rfl, by omega, by omega, Ext.refl _⟩) (fun hl => ?_))
  refine ⟨fun lf i wr => ∃ j : Nat, i = j ∧ j ≤ n ∧ Ext w wr ∧ 0 ≤ lf ∧ lf ≤ 1048576 ∧ lf + n + (((l.take j).map bulks).sum : Nat) ≤ left, fun _ i _ => n - i.toNat, ⟨0, rfl, by omega, Ext.refl _, by omega, by omega, by simp <;> omega⟩, ?_⟩
  intro junk wr lf i ⟨j, hij, hj, hx, hl0, hl1, hle⟩
  subst hij
  refine ifD (fun hlt => ?_) (fun hge => ?_)
  · have hjn : j < n := by omega
    obtain ⟨a, cs, hp, hk, hr, hld⟩ := (h.ext hx).at (P := P) (t := T_laws_Step) (by kernel_rfl) hjn
    subst hp
    have hjl : j < l.length := by omega
    have hm : l[j] ∈ l := List.getElem_mem hjl
    have hcode := hc _ hm
    have hrr := hr
    obtain ⟨a0, us, esa0, hv, hd, hrx, hcodex⟩ := hr.int hcode
    subst hv; clear hd
    obtain ⟨a1, us, esa1, hv, hd, hrxx, hcodexx⟩ := hrx.bool hcodex
    subst hv; clear hd
    obtain ⟨a2p, a2n, a2c, a2z, us, esa2, hv, hd, a2h, hrxxx, hcodexxx⟩ := hrxx.ints hcodexx
    subst hv; clear hd
    obtain ⟨a3, us, esa3, hv, hd, hrxxxx, hcodexxxx⟩ := hrxxx.int hcodexxx
    subst hv; clear hd
    obtain ⟨hv, hd⟩ := hrxxxx.done hcodexxxx
    subst hv; clear hd
    refine ⟨⟨by omega, by omega⟩, _, _, _, _, _, _, by simpa using hld, ?_⟩
    refine Ret.at (laws_szStep_c hrr (hc _ hm) (hok _ hm) hl0 hl1) ?_
    rintro v w2 ⟨t, hv, ht, htm, hy⟩
    subst hv
    refine ⟨_, rfl, ifD (fun hl => ⟨_, rfl, by omega, by omega, hx.trans hy⟩) (fun hl => ?_)⟩
    refine exW ⟨by omega, by omega⟩ ⟨⟨j + 1, by omega, by omega, hx.trans hy, by omega, by omega, ?_⟩, by simp; omega⟩
    rw [List.take_add_one, List.getElem?_eq_getElem hjl]
    have := ht (by omega)
    simp only [Option.toList_some, List.map_append, List.map_cons, List.map_nil, List.sum_append, List.sum_cons, List.sum_nil]
    omega
  · have hjn : j = n := by omega
    subst hjn
    rw [List.take_of_length_le (by omega)] at hle
    exact ⟨_, rfl, by omega, by omega, hx⟩
theorem laws_toStepS_c {w : World} {p : Option Addr} {n c : Nat} {l : List (List D0)} (h : RowsR w 4 p n c l) (hc : ∀ x ∈ l, x.map D0.code = [.int, .bool, .ints, .int]) (hn : n ≤ 1048576) (hb : ∀ x ∈ l, bulks x ≤ 1048576) :
    Ret P n_laws_toStepS [.slice p n c] w fun v w' => ∃ p' c' f, v = .slice p' n c' ∧ OwnRows w' w.heap.size T_impl_Step 4 p' n c' l f ∧ Ext w w' := by
  refine laws_toStepS_ret ?_
  unfold laws_toStepS
  refine ⟨⟨by omega, by omega, by omega⟩, fun r w1 hnew => ?_⟩
  have hlen := h.1; have er := hnew.r_eq; have es := hnew.size
  refine ⟨fun i wr => ∃ (j : Nat) (css : List (List Value)) (fs : List (List Nat)) (xs : List Value), i = j ∧ j ≤ n ∧ Ext w wr ∧ w1.heap.size ≤ wr.heap.size ∧ AllO wr w1.heap.size 4 css (l.take j) fs ∧ fs.flatten.Nodup ∧ Blk wr r T_impl_Step xs ∧ xs.length = n * 4 ∧ xs.take (j * 4) = css.flatten, fun i _ => n - i.toNat, ⟨0, [], [], _, rfl, by omega, hnew.ext, Nat.le_refl _, trivial, List.nodup_nil, hnew.blk, by simp [zeroRow], by simp⟩, ?_⟩
  intro junk wr i ⟨j, css, fs, xs, hij, hj, hx, hsz, ha, hnd, hbk, hxl, hxt⟩
  subst hij
  refine ifD (fun hlt => ?_) (fun hge => ?_)
  · have hjn : j < n := by omega
    obtain ⟨a, cs, hp, hk, hr, hl⟩ := (h.ext hx).at (P := P) (t := T_laws_Step) (by kernel_rfl) hjn
    subst hp
    have hjl : j < l.length := by omega
    have hm : l[j] ∈ l := List.getElem_mem hjl
    have hcode := hc _ hm; have hbl := hb _ hm
    have hrr := hr
    obtain ⟨a0, us, esa0, hv, hd, hrx, hcodex⟩ := hr.int hcode
    subst hv; clear hd
    obtain ⟨a1, us, esa1, hv, hd, hrxx, hcodexx⟩ := hrx.bool hcodex
    subst hv; clear hd
    obtain ⟨a2p, a2n, a2c, a2z, us, esa2, hv, hd, a2h, hrxxx, hcodexxx⟩ := hrxx.ints hcodexx
    subst hv; clear hd
    obtain ⟨a3, us, esa3, hv, hd, hrxxxx, hcodexxxx⟩ := hrxxx.int hcodexxx
    subst hv; clear hd
    obtain ⟨hv, hd⟩ := hrxxxx.done hcodexxxx
    subst hv; clear hd
    refine ⟨⟨by omega, by omega⟩, _, _, _, _, _, _, by simpa using hl, ?_⟩
    refine Ret.at (laws_toStep_c hrr (hc _ hm) hbl) ?_
    rintro v w2 ⟨vs, f, hv, ho, hnf, hy⟩
    subst hv
    have ho2 := ho.reps; have hoc := hc _ hm
    obtain ⟨b0, us, esb0, hv, hd, ho2x, hocx⟩ := ho2.int hoc
    subst hv; clear hd
    obtain ⟨b1, us, esb1, hv, hd, ho2xx, hocxx⟩ := ho2x.bool hocx
    subst hv; clear hd
    obtain ⟨b2p, b2n, b2c, b2z, us, esb2, hv, hd, b2h, ho2xxx, hocxxx⟩ := ho2xx.ints hocxx
    subst hv; clear hd
    obtain ⟨b3, us, esb3, hv, hd, ho2xxxx, hocxxxx⟩ := ho2xxx.int hocxxx
    subst hv; clear hd
    obtain ⟨hv, hd⟩ := ho2xxxx.done hocxxxx
    subst hv; clear hd
    have hcl : ([.int .i64 b0, .bool b1, .slice b2p b2n b2c, .int .i64 b3] : List Value).length = 4 := rfl
    have hfr := fill_row hxl hxt hcl hjn
    obtain ⟨w3, hst, hb3, hch, hs3⟩ := (hbk.ext hy).storeA (P := P) (t := T_impl_Step) (k := j * 4) (by kernel_rfl) hfr.1 ho.reps.cells1
    have hrf : ∀ q ∈ f, q ∉ [r] := fun q hq hm => by have := (ho.lt q hq).1; simp at hm; omega
    have hrs : ∀ q ∈ fs.flatten, q ∉ [r] := fun q hq hm => by have := (ha.lt q hq).1; simp at hm; omega
    refine ⟨_, _, _, _, _, _, rfl, ⟨by omega, by omega⟩, w3, by simpa using hst, exW ⟨by omega, by omega⟩ ⟨⟨j + 1, css ++ [[.int .i64 b0, .bool b1, .slice b2p b2n b2c, .int .i64 b3]], fs ++ [f], _, by omega, by omega, (hx.trans hy).chg hch (by simp; omega), by have := hy.le; omega, ?_, ?_, hb3, hfr.2.1, hfr.2.2⟩, by simp; omega⟩⟩
    · rw [List.take_add_one, List.getElem?_eq_getElem hjl]
      exact ((ha.ext hy).chg hch hrs).snoc hcl ((ho.mono hsz).chg hch hrf)
    · rw [List.flatten_append]
      exact nodup_append (m := wr.heap.size) hnd (by simpa using hnf) (fun q hq => (ha.lt q hq).2) (fun q hq => (ho.lt q (by simpa using hq)).1)
  · have hjn : j = n := by omega
    subst hjn
    rw [List.take_of_length_le (by omega)] at ha hxt
    subst hxt
    refine ⟨_, _, _, rfl, ⟨by omega, css, fs, ha.mono (by omega), Own.of_blk hbk (by omega) hxl (by simp only [maxLen]; omega), rfl, ?_⟩, hx⟩
    refine nodup_append (m := w1.heap.size) (by simp) hnd (fun q hq => ?_) (fun q hq => (ha.lt q hq).1)
    simp at hq; omega
theorem laws_eqStepS_c {w : World} {p q : Option Addr} {n c m d : Nat} {l s : List (List D0)} (h : RowsR w 4 p n c l) (k : RowsR w 4 q m d s) (hc : ∀ x ∈ l, x.map D0.code = [.int, .bool, .ints, .int]) (kc : ∀ x ∈ s, x.map D0.code = [.int, .bool, .ints, .int]) :
    Ret P n_laws_eqStepS [.slice p n c, .slice q m d] w fun v w' => v = .bool (decide (l = s)) ∧ Ext w w' := by
  refine laws_eqStepS_ret ?_
  unfold laws_eqStepS
  have hz := h.1; have hy := k.1; have hcap := h.2.1; have hcm := h.2.2.1
  refine ifD (fun hne => ⟨dec_no (fun e => hne (by rw [← hz, ← hy, e])), Ext.refl _⟩) (fun heq => ?_)
  have hnm : n = m := by omega
  refine ⟨fun i wr => ∃ j : Nat, i = j ∧ j ≤ n ∧ Ext w wr ∧ l.take j = s.take j, fun i _ => n - i.toNat, ⟨0, rfl, by omega, Ext.refl _, by simp⟩, ?_⟩
  intro junk wr i ⟨j, hij, hj, hx, he⟩
  subst hij
  refine ifD (fun hlt => ?_) (fun hge => ⟨?_, hx⟩)
  · have hjn : j < n := by omega
    have hx' := hx.trans (Ext.drew wr)
    have hjl : j < l.length := by omega
    have hjs : j < s.length := by omega
    obtain ⟨kb1, ko1, hp, hs1⟩ := (h.ext hx').2.2.2 (by omega)
    obtain ⟨cs, hk, hr, hg1⟩ := hs1 j _ (List.getElem?_eq_getElem hjl)
    obtain ⟨kb2, ko2, hq, hs2⟩ := (k.ext hx').2.2.2 (by omega)
    obtain ⟨ds, hk2, hr2, hg2⟩ := hs2 j _ (List.getElem?_eq_getElem hjs)
    subst hp; subst hq
    have hrr := hr; have hrr2 := hr2
    have hc1 := hc _ (List.getElem_mem hjl); have hc2 := kc _ (List.getElem_mem hjs)
    obtain ⟨a0, us, esa0, hv, hd, hrx, hc1x⟩ := hr.int hc1
    subst hv; clear hd
    obtain ⟨a1, us, esa1, hv, hd, hrxx, hc1xx⟩ := hrx.bool hc1x
    subst hv; clear hd
    obtain ⟨a2p, a2n, a2c, a2z, us, esa2, hv, hd, a2h, hrxxx, hc1xxx⟩ := hrxx.ints hc1xx
    subst hv; clear hd
    obtain ⟨a3, us, esa3, hv, hd, hrxxxx, hc1xxxx⟩ := hrxxx.int hc1xxx
    subst hv; clear hd
    obtain ⟨hv, hd⟩ := hrxxxx.done hc1xxxx
    subst hv; clear hd
    obtain ⟨b0, us, esb0, hv, hd, hr2x, hc2x⟩ := hr2.int hc2
    subst hv; clear hd
    obtain ⟨b1, us, esb1, hv, hd, hr2xx, hc2xx⟩ := hr2x.bool hc2x
    subst hv; clear hd
    obtain ⟨b2p, b2n, b2c, b2z, us, esb2, hv, hd, b2h, hr2xxx, hc2xxx⟩ := hr2xx.ints hc2xx
    subst hv; clear hd
    obtain ⟨b3, us, esb3, hv, hd, hr2xxxx, hc2xxxx⟩ := hr2xxx.int hc2xxx
    subst hv; clear hd
    obtain ⟨hv, hd⟩ := hr2xxxx.done hc2xxxx
    subst hv; clear hd
    have l1 : ∀ w', Ext wr.drew w' → Loads P T_impl_Step ((⟨kb1, ko1, none⟩ : Addr).add ((j : Int).toNat * 4)) (.agg ⟨[.int .i64 a0, .bool a1, .slice a2p a2n a2c, .int .i64 a3]⟩) w' := fun w' hw => by
      rw [addr_add]; exact loadsA (by kernel_rfl) (by simpa using hg1.ext hw)
    have l2 : ∀ w', Ext wr.drew w' → Loads P T_impl_Step ((⟨kb2, ko2, none⟩ : Addr).add ((j : Int).toNat * 4)) (.agg ⟨[.int .i64 b0, .bool b1, .slice b2p b2n b2c, .int .i64 b3]⟩) w' := fun w' hw => by
      rw [addr_add]; exact loadsA (by kernel_rfl) (by simpa using hg2.ext hw)
    refine ⟨⟨by omega, by omega⟩, _, _, _, _, _, _, l1, ⟨by omega, by omega⟩, _, _, _, _, _, _, l2, ?_⟩
    refine Ret.at (laws_eqStep_c hrr hrr2 (hc _ (List.getElem_mem hjl)) (kc _ (List.getElem_mem hjs))) ?_
    rintro v w2 ⟨hv, hy2⟩
    subst hv
    refine ⟨_, rfl, ifN (fun hne => ⟨dec_no (fun e => ?_), hx'.trans hy2⟩) (fun heq2 => ?_)⟩
    · exact of_decide_eq_false hne (by subst e; rfl)
    · have e2 := of_decide_eq_true heq2
      refine exW ⟨by omega, by omega⟩ ⟨⟨j + 1, by omega, by omega, hx'.trans hy2, ?_⟩, by simp; omega⟩
      rw [List.take_add_one, List.take_add_one, he, List.getElem?_eq_getElem hjl, List.getElem?_eq_getElem hjs, e2]
  · have hjn : j = n := by omega
    subst hjn
    rw [List.take_of_length_le (by omega), List.take_of_length_le (by omega)] at he
    exact dec_yes he
end Go.Proofs.YtmajiilehdpdmaaGreatDoor

namespace Go.Proofs.YtmajiilehdpdmaaGreatDoor
open Go Go.Proofs.YtmajiilehdpdmaaGreatDoor.Sx
set_option linter.unusedVariables false
set_option linter.unusedSimpArgs false
theorem ints_at {w : World} {p : Option Addr} {n c : Nat} {zs : List Int} (h : IntsR w p n c zs) {i : Int} (h0 : 0 ≤ i) (h1 : i < n) :
    ∃ a, p = some a ∧ Loads P T_int (a.add (i.toNat * 1)) (.int .i64 (zs.getD i.toNat 0)) w := by
  obtain ⟨a, hp, hl⟩ := h.at (P := P) (t := T_int) (k := i.toNat) (by kernel_rfl) (by omega)
  have hz : i.toNat < zs.length := by rw [h.1]; omega
  refine ⟨a, hp, ?_⟩
  rw [List.getD_eq_getElem?_getD, List.getElem?_eq_getElem hz]
  simpa using hl
theorem spec_l01In_c (n lo hi : Int) (w : World) : Ret P n_spec_l01In [.int .i64 n, .int .i64 lo, .int .i64 hi] w fun v w' => v = .bool (decide (lo ≤ n ∧ n ≤ hi)) ∧ w' = w := by
  refine spec_l01In_ret ?_
  unfold spec_l01In
  refine ifD (fun h => ⟨?_, rfl⟩) (fun h => ⟨?_, rfl⟩) <;> simp [h]
def isLimb (z : Int) : Bool := decide (0 ≤ z ∧ z ≤ 999999999)
def natOk (zs : List Int) : Bool := zs.all isLimb && decide (zs.length ≤ 50) && !(decide (zs.getLast? = some 0))
theorem getLast_getD {zs : List Int} (h : 0 < zs.length) : zs.getLast? = some (zs.getD (zs.length - 1) 0) := by
  rw [List.getLast?_eq_getElem?, List.getD_eq_getElem?_getD, List.getElem?_eq_getElem (by omega)]
  rfl
theorem all_getD {zs : List Int} (h : ∀ k < zs.length, isLimb (zs.getD k 0) = true) : zs.all isLimb = true := by
  rw [List.all_eq_true]
  intro z hz
  obtain ⟨i, hi, rfl⟩ := List.getElem_of_mem hz
  have := h i hi
  rwa [List.getD_eq_getElem?_getD, List.getElem?_eq_getElem hi] at this
theorem not_all_getD {zs : List Int} {k : Nat} (hk : k < zs.length) (h : isLimb (zs.getD k 0) = false) : zs.all isLimb = false := by
  rw [List.getD_eq_getElem?_getD, List.getElem?_eq_getElem hk] at h
  rw [List.all_eq_false]
  exact ⟨_, List.getElem_mem hk, by simpa using h⟩
theorem spec_NatOk_c {w : World} {p : Option Addr} {n c : Nat} {zs : List Int} (h : IntsR w p n c zs) : Ret P n_spec_NatOk [.slice p n c] w fun v w' => v = .bool (natOk zs) ∧ Ext w w' := by
  refine spec_NatOk_ret ?_
  unfold spec_NatOk
  have hlen := h.1; have hcap := h.2.1; have hcm := h.2.2.1
  refine ⟨fun i wr => ∃ k : Nat, i = k ∧ k ≤ n ∧ Ext w wr ∧ ∀ j < k, isLimb (zs.getD j 0) = true, fun i _ => n - i.toNat, ⟨0, rfl, by omega, Ext.refl _, fun j hj => by omega⟩, ?_⟩
  intro junk wr i ⟨k, hik, hk, hx, hall⟩
  subst hik
  refine ifD (fun hlt => ?_) (fun hge => ?_)
  · obtain ⟨a, rfl, hl⟩ := ints_at (h.ext hx) (i := (k : Int)) (by omega) (by omega)
    refine ⟨⟨by omega, by omega⟩, _, hl, ?_⟩
    refine Ret.at (spec_l01In_c _ 0 999999999 wr) ?_
    rintro v w1 ⟨hv, hw⟩
    subst hv; subst hw
    refine ⟨_, rfl, ifN (fun hb => ⟨?_, hx⟩) (fun hb => ?_)⟩
    · have : zs.all isLimb = false := not_all_getD (k := k) (by omega) (by simpa [isLimb] using hb)
      simp [natOk, this]
    · refine exW ⟨by omega, by omega⟩ ⟨⟨k + 1, by omega, by omega, hx, fun j hj => ?_⟩, by simp; omega⟩
      by_cases hjk : j < k
      · exact hall j hjk
      · obtain rfl : j = k := by omega
        simpa [isLimb] using hb
  · have hkn : k = n := by omega
    subst hkn
    have hal : zs.all isLimb = true := all_getD (fun j hj => hall j (by omega))
    refine ifD (fun hle => ifD (fun h0 => ⟨?_, hx⟩) (fun h0 => ?_)) (fun hgt => ⟨?_, hx⟩)
    · have : zs = [] := List.eq_nil_of_length_eq_zero (by omega)
      subst this; rfl
    · obtain ⟨a, rfl, hl⟩ := ints_at (h.ext hx) (i := (k : Int) - 1) (by omega) (by omega)
      refine exW ⟨by omega, by omega⟩ ⟨⟨by omega, by omega⟩, _, hl, ?_, hx⟩
      have e : ((k : Int) - 1).toNat = zs.length - 1 := by omega
      simp only [natOk, hal, getLast_getD (show 0 < zs.length by omega), e, Option.some.injEq, Bool.true_and]
      rw [show decide (zs.length ≤ 50) = true by simp; omega]
      simp
    · simp [natOk, hal, show ¬ zs.length ≤ 50 by omega]
theorem impl_NatOk_c {w : World} {p : Option Addr} {n c : Nat} {zs : List Int} (h : IntsR w p n c zs) : Ret P n_impl_NatOk [.slice p n c] w fun v w' => v = .bool (natOk zs) ∧ Ext w w' := by
  have hlen := h.1; have hcap := h.2.1; have hcm := h.2.2.1
  have J : ∀ wr, Ext w wr → zs.length ≤ 50 → zs.getLast? ≠ some 0 → impl_NatOk_j0 p n wr fun v w' => v = .bool (natOk zs) ∧ Ext w w' := by
    intro wr hx0 h50 hl0
    unfold impl_NatOk_j0
    refine ⟨fun i wr => ∃ k : Nat, i = k ∧ k ≤ n ∧ Ext w wr ∧ ∀ j < k, isLimb (zs.getD j 0) = true, fun i _ => n - i.toNat, ⟨0, rfl, by omega, hx0, fun j hj => by omega⟩, ?_⟩
    intro junk wr i ⟨k, hik, hk, hx, hall⟩
    subst hik
    refine ifD (fun hlt => ?_) (fun hge => ⟨?_, hx⟩)
    · obtain ⟨a, rfl, hl⟩ := ints_at (h.ext hx) (i := (k : Int)) (by omega) (by omega)
      have no : isLimb (zs.getD k 0) = false → Value.bool false = .bool (natOk zs) := fun hf => by
        have : zs.all isLimb = false := not_all_getD (k := k) (by omega) hf
        simp [natOk, this]
      refine ⟨⟨by omega, by omega⟩, _, hl, ifD (fun hb => ifT ⟨no (by simp [isLimb]; simp at hb; omega), hx⟩) (fun hb => ifD (fun hb2 => ⟨no (by simp [isLimb]; simp at hb2; omega), hx⟩) (fun hb2 => ?_))⟩
      refine exW ⟨by omega, by omega⟩ ⟨⟨k + 1, by omega, by omega, hx, fun j hj => ?_⟩, by simp; omega⟩
      by_cases hjk : j < k
      · exact hall j hjk
      · obtain rfl : j = k := by omega
        simp [isLimb]; simp at hb hb2; omega
    · have hal : zs.all isLimb = true := all_getD (fun j hj => hall j (by omega))
      simp [natOk, hal, h50, hl0]
  refine impl_NatOk_ret ?_
  unfold impl_NatOk
  refine ifD (fun hgt => ifT ⟨by simp [natOk, show ¬ zs.length ≤ 50 by omega], Ext.refl _⟩) (fun hle => ifD (fun hpos => ?_) (fun h0 => ifF ?_))
  · obtain ⟨a, rfl, hl⟩ := ints_at h (i := (n : Int) - 1) (by omega) (by omega)
    have e : ((n : Int) - 1).toNat = zs.length - 1 := by omega
    have hg := getLast_getD (show 0 < zs.length by omega)
    rw [← e] at hg
    refine exW ⟨by omega, by omega⟩ ⟨⟨by omega, by omega⟩, _, hl, ifD (fun hz => ⟨?_, Ext.refl _⟩) (fun hz => J w (Ext.refl _) (by omega) (by rw [hg]; simpa using hz))⟩
    simp only [natOk, hg, hz]; simp
  · have : zs = [] := List.eq_nil_of_length_eq_zero (by omega)
    exact J w (Ext.refl _) (by omega) (by rw [this]; simp)
def lexR : List Int → List Int → Int
  | x :: xs, y :: ys => if x < y then -1 else if y < x then 1 else lexR xs ys
  | _, _ => 0
def cmpL (a b : List Int) : Int := if a.length < b.length then -1 else if b.length < a.length then 1 else lexR a.reverse b.reverse
theorem lexR_same : ∀ (a : List Int), lexR a a = 0
  | [] => rfl
  | x :: xs => by simp [lexR, lexR_same xs]
theorem lexR_at : ∀ (t : List Int) {x y : Int} {s r : List Int}, x ≠ y → lexR (t ++ x :: s) (t ++ y :: r) = if x < y then -1 else 1
  | [], x, y, s, r, h => by
    simp only [List.nil_append, lexR]
    by_cases h1 : x < y
    · simp [h1]
    · simp [h1, show y < x by omega]
  | z :: t, x, y, s, r, h => by simp [lexR, lexR_at t h]
theorem lexR_zero : ∀ (a b : List Int), a.length = b.length → lexR a b = 0 → a = b
  | [], [], _, _ => rfl
  | x :: xs, y :: ys, hl, h => by
    simp only [lexR] at h
    by_cases h1 : x < y
    · simp [h1] at h
    · by_cases h2 : y < x
      · simp [h1, h2] at h
      · simp only [h1, h2, if_false] at h
        rw [lexR_zero xs ys (by simpa using hl) h, show x = y by omega]
theorem cmpL_zero {a b : List Int} : cmpL a b = 0 ↔ a = b := by
  constructor
  · intro h
    unfold cmpL at h
    split at h
    · cases h
    · split at h
      · cases h
      · have := lexR_zero _ _ (by simp; omega) h
        simpa using this
  · rintro rfl; simp [cmpL, lexR_same]
theorem cmpL_at {a b : List Int} {i : Nat} (hl : a.length = b.length) (hi : i < a.length) (ht : ∀ j, i < j → a.getD j 0 = b.getD j 0) (hne : a.getD i 0 ≠ b.getD i 0) : cmpL a b = if a.getD i 0 < b.getD i 0 then -1 else 1 := by
  have hi2 : i < b.length := by omega
  have e1 : a = a.take i ++ a.getD i 0 :: a.drop (i + 1) := by
    rw [List.getD_eq_getElem?_getD, List.getElem?_eq_getElem hi, Option.getD_some, ← List.drop_eq_getElem_cons, List.take_append_drop]
  have e2 : b = b.take i ++ b.getD i 0 :: b.drop (i + 1) := by
    rw [List.getD_eq_getElem?_getD, List.getElem?_eq_getElem hi2, Option.getD_some, ← List.drop_eq_getElem_cons, List.take_append_drop]
  have ed : a.drop (i + 1) = b.drop (i + 1) := by
    apply List.ext_getElem (by simp; omega)
    intro k h1 h2
    have := ht (i + 1 + k) (by omega)
    simp only [List.length_drop] at h1 h2
    rw [List.getD_eq_getElem?_getD, List.getD_eq_getElem?_getD, List.getElem?_eq_getElem (by omega), List.getElem?_eq_getElem (by omega)] at this
    simpa using this
  have r1 : a.reverse = (a.drop (i + 1)).reverse ++ a.getD i 0 :: (a.take i).reverse := (congrArg List.reverse e1).trans (by simp)
  have r2 : b.reverse = (a.drop (i + 1)).reverse ++ b.getD i 0 :: (b.take i).reverse := (congrArg List.reverse e2).trans (by simp [ed])
  unfold cmpL
  rw [if_neg (by omega), if_neg (by omega), r1, r2, lexR_at _ hne]
theorem cmpL_all {a b : List Int} (hl : a.length = b.length) (ht : ∀ j, a.getD j 0 = b.getD j 0) : cmpL a b = 0 := by
  have : a = b := by
    apply List.ext_getElem hl
    intro k h1 h2
    have := ht k
    rw [List.getD_eq_getElem?_getD, List.getD_eq_getElem?_getD, List.getElem?_eq_getElem h1, List.getElem?_eq_getElem h2] at this
    simpa using this
  exact cmpL_zero.2 this
theorem getD_beyond {a : List Int} {j : Nat} (h : a.length ≤ j) : a.getD j 0 = 0 := by
  rw [List.getD_eq_getElem?_getD, List.getElem?_eq_none h]; rfl
theorem spec_l02Cmp_c {w : World} {p q : Option Addr} {n c m d : Nat} {zs ys : List Int} (h : IntsR w p n c zs) (k : IntsR w q m d ys) :
    Ret P n_spec_l02Cmp [.slice p n c, .slice q m d] w fun v w' => v = .int .i64 (cmpL zs ys) ∧ Ext w w' := by
  refine spec_l02Cmp_ret ?_
  unfold spec_l02Cmp
  have hz := h.1; have hy := k.1; have hcap := h.2.1; have hcm := h.2.2.1
  refine ifD (fun hne => ifD (fun hlt => ⟨?_, Ext.refl _⟩) (fun hge => ⟨?_, Ext.refl _⟩)) (fun heq => ?_)
  · rw [cmpL, if_pos (by omega)]
  · rw [cmpL, if_neg (by omega), if_pos (by omega)]
  · have hnm : n = m := by omega
    refine exW ⟨by omega, by omega⟩ ⟨fun i wr => -1 ≤ i ∧ i < n ∧ Ext w wr ∧ ∀ j : Nat, i < j → zs.getD j 0 = ys.getD j 0, fun i _ => (i + 1).toNat, ⟨by omega, by omega, Ext.refl _, fun j hj => by rw [getD_beyond (by omega), getD_beyond (by omega)]⟩, ?_⟩
    intro junk wr i ⟨h1, h2, hx, ht⟩
    refine ifD (fun h0 => ?_) (fun hneg => ⟨?_, hx⟩)
    · have hx1 := hx.trans (Ext.drew wr)
      have hx2 := hx1.trans (Ext.drew _)
      obtain ⟨a, hpa, _⟩ := ints_at h h0 h2
      obtain ⟨b, hqb, _⟩ := ints_at k h0 (show i < m by omega)
      subst hpa; subst hqb
      have l1 : ∀ w', Ext w w' → Loads P T_int (a.add (i.toNat * 1)) (.int .i64 (zs.getD i.toNat 0)) w' := fun w' hw => by
        obtain ⟨a', ha, hl⟩ := ints_at (h.ext hw) h0 h2
        cases ha; exact hl
      have l2 : ∀ w', Ext w w' → Loads P T_int (b.add (i.toNat * 1)) (.int .i64 (ys.getD i.toNat 0)) w' := fun w' hw => by
        obtain ⟨a', ha, hl⟩ := ints_at (k.ext hw) h0 (show i < m by omega)
        cases ha; exact hl
      have ht' : ∀ j : Nat, i.toNat < j → zs.getD j 0 = ys.getD j 0 := fun j hj => ht j (by omega)
      refine ⟨⟨by omega, by omega⟩, _, fun w' hw => l1 w' (hx1.trans hw), ⟨by omega, by omega⟩, _, fun w' hw => l2 w' (hx1.trans hw), ifD (fun hlt => ⟨?_, hx1⟩) (fun hge => ?_)⟩
      · rw [cmpL_at (by omega) (by omega) ht' (by omega), if_pos hlt]
      · refine ⟨⟨by omega, by omega⟩, _, fun w' hw => l1 w' (hx2.trans hw), ⟨by omega, by omega⟩, _, fun w' hw => l2 w' (hx2.trans hw), ifD (fun hlt => ⟨?_, hx2⟩) (fun hge2 => ?_)⟩
        · rw [cmpL_at (by omega) (by omega) ht' (by omega), if_neg (by omega)]
        · refine exW ⟨by omega, by omega⟩ ⟨⟨by omega, by omega, hx2, fun j hj => ?_⟩, by show (i - 1 + 1).toNat < (i + 1).toNat; omega⟩
          by_cases e : j = i.toNat
          · subst e; omega
          · exact ht j (by omega)
    · rw [cmpL_all (by omega) (fun j => ht j (by omega))]
theorem impl_natCmp_c {w : World} {p q : Option Addr} {n c m d : Nat} {zs ys : List Int} (h : IntsR w p n c zs) (k : IntsR w q m d ys) :
    Ret P n_impl_natCmp [.slice p n c, .slice q m d] w fun v w' => v = .int .i64 (cmpL zs ys) ∧ Ext w w' := by
  refine impl_natCmp_ret ?_
  unfold impl_natCmp
  have hz := h.1; have hy := k.1; have hcap := h.2.1; have hcm := h.2.2.1
  refine ifD (fun hne => ifD (fun hlt => ⟨?_, Ext.refl _⟩) (fun hge => ⟨?_, Ext.refl _⟩)) (fun heq => ?_)
  · rw [cmpL, if_pos (by omega)]
  · rw [cmpL, if_neg (by omega), if_pos (by omega)]
  · have hnm : n = m := by omega
    refine exW ⟨by omega, by omega⟩ ⟨fun i wr => -1 ≤ i ∧ i < n ∧ Ext w wr ∧ ∀ j : Nat, i < j → zs.getD j 0 = ys.getD j 0, fun i _ => (i + 1).toNat, ⟨by omega, by omega, Ext.refl _, fun j hj => by rw [getD_beyond (by omega), getD_beyond (by omega)]⟩, ?_⟩
    intro junk wr i ⟨h1, h2, hx, ht⟩
    refine ifD (fun h0 => ?_) (fun hneg => ⟨?_, hx⟩)
    · have hx1 := hx.trans (Ext.drew wr)
      have hx2 := hx1.trans (Ext.drew _)
      obtain ⟨a, hpa, _⟩ := ints_at h h0 h2
      obtain ⟨b, hqb, _⟩ := ints_at k h0 (show i < m by omega)
      subst hpa; subst hqb
      have l1 : ∀ w', Ext w w' → Loads P T_int (a.add (i.toNat * 1)) (.int .i64 (zs.getD i.toNat 0)) w' := fun w' hw => by
        obtain ⟨a', ha, hl⟩ := ints_at (h.ext hw) h0 h2
        cases ha; exact hl
      have l2 : ∀ w', Ext w w' → Loads P T_int (b.add (i.toNat * 1)) (.int .i64 (ys.getD i.toNat 0)) w' := fun w' hw => by
        obtain ⟨a', ha, hl⟩ := ints_at (k.ext hw) h0 (show i < m by omega)
        cases ha; exact hl
      have ht' : ∀ j : Nat, i.toNat < j → zs.getD j 0 = ys.getD j 0 := fun j hj => ht j (by omega)
      refine ⟨⟨by omega, by omega⟩, _, fun w' hw => l1 w' (hx1.trans hw), ⟨by omega, by omega⟩, _, fun w' hw => l2 w' (hx1.trans hw), ifD (fun hne => ?_) (fun heq2 => ?_)⟩
      · refine ⟨⟨by omega, by omega⟩, _, fun w' hw => l1 w' (hx2.trans hw), ⟨by omega, by omega⟩, _, fun w' hw => l2 w' (hx2.trans hw), ifD (fun hlt => ⟨?_, hx2⟩) (fun hge => ⟨?_, hx2⟩)⟩
        · rw [cmpL_at (by omega) (by omega) ht' hne, if_pos hlt]
        · rw [cmpL_at (by omega) (by omega) ht' hne, if_neg hge]
      · have heq2 : zs.getD i.toNat 0 = ys.getD i.toNat 0 := by simpa using heq2
        refine exW ⟨by omega, by omega⟩ ⟨⟨by omega, by omega, hx1, fun j hj => ?_⟩, by show (i - 1 + 1).toNat < (i + 1).toNat; omega⟩
        by_cases e : j = i.toNat
        · subst e; omega
        · exact ht j (by omega)
    · rw [cmpL_all (by omega) (fun j => ht j (by omega))]
end Go.Proofs.YtmajiilehdpdmaaGreatDoor

namespace Go.Proofs.YtmajiilehdpdmaaGreatDoor
open Go Go.Proofs.YtmajiilehdpdmaaGreatDoor.Sx
set_option linter.unusedVariables false
set_option linter.unusedSimpArgs false
def intOk : List D0 → Bool
  | [.bool b, .ints z] => natOk z && (!b || !z.isEmpty)
  | _ => false
theorem intOk_len {b : Bool} {z : List Int} {n : Nat} (h : z.length = n) : (decide ((0 : Int) < (n : Nat))) = !z.isEmpty := by
  cases z with
  | nil => simp at h; simp [← h]
  | cons a r => simp at h; simp [← h]
theorem spec_IntOk_c {w : World} {xs : List Value} {dx : List D0} (h : Reps w xs dx) (hc : dx.map D0.code = [.bool, .ints]) :
    Ret P n_spec_IntOk [.agg ⟨xs⟩] w fun v w' => v = .bool (intOk dx) ∧ Ext w w' := by
  obtain ⟨a0, a1p, a1n, a1c, a1z, rfl, rfl, ha⟩ := open_Signed h hc
  refine spec_IntOk_ret ?_
  unfold spec_IntOk
  intro r w1 hn
  have x := hn.ext
  refine ⟨_, _, _, hn.blk.load (by kernel_rfl) rfl, ?_⟩
  refine Ret.at (spec_NatOk_c (ha.ext x)) ?_
  rintro v w2 ⟨hv, y⟩
  subst hv
  have b := hn.blk.ext y; have x := x.trans y
  refine ⟨_, rfl, fun e => ⟨_, b.load (by kernel_rfl) rfl, ifN (fun hb => ⟨?_, x⟩) (fun hb => ?_)⟩, fun e => ⟨by simp [intOk, e], x⟩⟩
  · simp [intOk, e, hb]
  · exact ⟨_, _, _, b.load (by kernel_rfl) rfl, by rw [intOk_len (b := a0) ha.1]; simp [intOk, e, hb], x⟩
theorem impl_IntOk_c {w : World} {xs : List Value} {dx : List D0} (h : Reps w xs dx) (hc : dx.map D0.code = [.bool, .ints]) :
    Ret P n_impl_IntOk [.agg ⟨xs⟩] w fun v w' => v = .bool (intOk dx) ∧ Ext w w' := by
  obtain ⟨a0, a1p, a1n, a1c, a1z, rfl, rfl, ha⟩ := open_Signed h hc
  refine impl_IntOk_ret ?_
  unfold impl_IntOk
  intro r w1 hn
  have x := hn.ext
  refine ⟨_, _, _, hn.blk.load (by kernel_rfl) rfl, ?_⟩
  refine Ret.at (impl_NatOk_c (ha.ext x)) ?_
  rintro v w2 ⟨hv, y⟩
  subst hv
  have b := hn.blk.ext y; have x := x.trans y
  refine ⟨_, rfl, fun e => ⟨_, b.load (by kernel_rfl) rfl, ifN (fun hb => ⟨?_, x⟩) (fun hb => ?_)⟩, fun e => ⟨by simp [intOk, e], x⟩⟩
  · simp [intOk, e, hb]
  · exact ⟨_, _, _, b.load (by kernel_rfl) rfl, by rw [intOk_len (b := a0) ha.1]; simp [intOk, e, hb], x⟩
def icmp : List D0 → List D0 → Int
  | [.bool a, .ints x], [.bool b, .ints y] => if !(intOk [.bool a, .ints x]) || !(intOk [.bool b, .ints y]) then 0 else if a && !b then -1 else if !a && b then 1 else if a then cmpL y x else cmpL x y
  | _, _ => 0
theorem spec_IntCmp_c {w : World} {xs ys : List Value} {dx dy : List D0} (h : Reps w xs dx) (k : Reps w ys dy) (hc : dx.map D0.code = [.bool, .ints]) (kc : dy.map D0.code = [.bool, .ints]) :
    Ret P n_spec_IntCmp [.agg ⟨xs⟩, .agg ⟨ys⟩] w fun v w' => v = .int .i64 (icmp dx dy) ∧ Ext w w' := by
  have hr := h; have kr := k
  obtain ⟨a0, a1p, a1n, a1c, a1z, rfl, rfl, ha⟩ := open_Signed h hc
  obtain ⟨b0, b1p, b1n, b1c, b1z, rfl, rfl, hb⟩ := open_Signed k kc
  refine spec_IntCmp_ret ?_
  unfold spec_IntCmp
  intro r w1 hn1 r1 w2 hn2
  have x := hn1.ext.trans hn2.ext
  have k0 := hn1.blk.ext hn2.ext; have k1 := hn2.blk
  have L : ∀ W, Ext w2 W → Ext w W := fun W hW => x.trans hW
  -- the tail: both right
  have J1 : ∀ W t, Ext w2 W → intOk [.bool a0, .ints a1z] = true → intOk [.bool b0, .ints b1z] = true → t = (a0 && !b0) → spec_IntCmp_j1 r r1 t W fun v w' => v = .int .i64 (icmp [.bool a0, .ints a1z] [.bool b0, .ints b1z]) ∧ Ext w w' := by
    intro W t hW h1 h2 ht
    have q0 := k0.ext hW; have q1 := k1.ext hW; have x := x.trans hW
    unfold spec_IntCmp_j1
    have fin : ∀ t32, t32 = a0 → (a0 && !b0) = false → (!a0 && b0) = false →
        ((t32 = true → ∃ (t34_p : Option Addr) (t34_n : Nat) (t34_c : Nat), Loads P T_s_int ((⟨r1, 0, none⟩ : Addr).add 1) (.slice t34_p t34_n t34_c) W ∧ ∃ (t36_p : Option Addr) (t36_n : Nat) (t36_c : Nat), Loads P T_s_int ((⟨r, 0, none⟩ : Addr).add 1) (.slice t36_p t36_n t36_c) W ∧ Calls P n_spec_l02Cmp ⟨[(.slice t34_p t34_n t34_c), (.slice t36_p t36_n t36_c)]⟩ W fun e wv_3 =>
          ∃ (t37 : Int), e = .returned (.int .i64 t37) ∧ (Value.int .i64 t37 = .int .i64 (icmp [.bool a0, .ints a1z] [.bool b0, .ints b1z]) ∧ Ext w wv_3)) ∧
        (t32 = false → ∃ (t39_p : Option Addr) (t39_n : Nat) (t39_c : Nat), Loads P T_s_int ((⟨r, 0, none⟩ : Addr).add 1) (.slice t39_p t39_n t39_c) W ∧ ∃ (t41_p : Option Addr) (t41_n : Nat) (t41_c : Nat), Loads P T_s_int ((⟨r1, 0, none⟩ : Addr).add 1) (.slice t41_p t41_n t41_c) W ∧ Calls P n_spec_l02Cmp ⟨[(.slice t39_p t39_n t39_c), (.slice t41_p t41_n t41_c)]⟩ W fun e wv_4 =>
          ∃ (t42 : Int), e = .returned (.int .i64 t42) ∧ (Value.int .i64 t42 = .int .i64 (icmp [.bool a0, .ints a1z] [.bool b0, .ints b1z]) ∧ Ext w wv_4))) := by
      intro t32 ht32 e1 e2
      subst ht32
      refine ⟨fun e => ⟨_, _, _, q1.load (by kernel_rfl) rfl, _, _, _, q0.load (by kernel_rfl) rfl, ?_⟩, fun e => ⟨_, _, _, q0.load (by kernel_rfl) rfl, _, _, _, q1.load (by kernel_rfl) rfl, ?_⟩⟩
      · refine Ret.at (spec_l02Cmp_c (hb.ext x) (ha.ext x)) ?_
        rintro v w3 ⟨hv, y⟩
        subst hv
        exact ⟨_, rfl, by simp only [icmp, h1, h2, e1, e2]; simp [e], x.trans y⟩
      · refine Ret.at (spec_l02Cmp_c (ha.ext x) (hb.ext x)) ?_
        rintro v w3 ⟨hv, y⟩
        subst hv
        exact ⟨_, rfl, by simp only [icmp, h1, h2, e1, e2]; simp [e], x.trans y⟩
    refine ⟨fun e => ⟨?_, x⟩, fun e => ?_⟩
    · rw [ht] at e; simp only [icmp, h1, h2, e]; rfl
    · rw [ht] at e
      refine ⟨_, q0.load (by kernel_rfl) rfl, ifN (fun ha0 => ?_) (fun ha0 => ?_)⟩
      · refine ⟨_, q1.load (by kernel_rfl) rfl, fun hb0 => ⟨?_, x⟩, fun hb0 => ⟨_, q0.load (by kernel_rfl) rfl, fin _ rfl e (by simp [ha0, hb0])⟩⟩
        subst ha0; subst hb0; simp only [icmp, h1, h2]; rfl
      · exact ifF ⟨_, q0.load (by kernel_rfl) rfl, fin _ rfl e (by simp [ha0])⟩
  have J0 : ∀ W t, Ext w2 W → t = (!(intOk [.bool a0, .ints a1z]) || !(intOk [.bool b0, .ints b1z])) → spec_IntCmp_j0 r r1 t W fun v w' => v = .int .i64 (icmp [.bool a0, .ints a1z] [.bool b0, .ints b1z]) ∧ Ext w w' := by
    intro W t hW ht
    have q0 := k0.ext hW; have q1 := k1.ext hW
    unfold spec_IntCmp_j0
    refine ⟨fun e => ⟨?_, L W hW⟩, fun e => ?_⟩
    · rw [ht] at e; simp only [icmp, e]; rfl
    · rw [ht] at e
      simp only [Bool.or_eq_false_iff, Bool.not_eq_false'] at e
      refine ⟨_, q0.load (by kernel_rfl) rfl, fun h0 => ⟨_, q1.load (by kernel_rfl) rfl, J1 W _ hW e.1 e.2 (by simp [h0])⟩, fun h0 => J1 W _ hW e.1 e.2 (by simp [h0])⟩
  refine ⟨_, _, _, _, k0.loadA0 (by kernel_rfl), ?_⟩
  refine Ret.at (spec_IntOk_c (hr.ext x) rfl) ?_
  rintro v w3 ⟨hv, y⟩
  subst hv
  refine ⟨_, rfl, ifN (fun e => J0 w3 _ y (by simp [e])) (fun e => ?_)⟩
  refine ⟨_, _, _, _, (k1.ext y).loadA0 (by kernel_rfl), ?_⟩
  refine Ret.at (spec_IntOk_c (kr.ext (x.trans y)) rfl) ?_
  rintro v w4 ⟨hv, y2⟩
  subst hv
  exact ⟨_, rfl, J0 w4 _ (y.trans y2) (by simp [e])⟩
end Go.Proofs.YtmajiilehdpdmaaGreatDoor
