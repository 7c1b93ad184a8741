/-
  Parts of the proof of rowText_holds: G2, G3, GData, SxMem, SxData, SxOwn, DInts, DS, CBase, CCurr, CInt, CWord, CNum, CNat, CSigned, CMul, CDec, SxMark, DMark, CText, SxPush, CJoin.
  Conditions: none.
-/
import Derived.Laws.AppendOwn
import Derived.Laws.CopyRow
import Derived.Laws.OwnMore
import Derived.Laws.BytesArg
import Derived.Lib.SmallJoins
import Derived.Lib.AppendIntMem
import Derived.Shelf.Strings.BuilderX
import Derived.Shelf.Strings.Repeat
import Derived.Shelf.Strings.OnBuilder
import Derived.Test.YtpaekkcgphljoaaDoorRTx1

namespace Go.Proofs.YtpaekkcgphljoaaDoor
open Go Go.Proofs.YtpaekkcgphljoaaDoor.Sx
set_option linter.unusedVariables false
set_option maxRecDepth 100000
def spec_CurKnown (code : ByteArray) (w : World) (R : Value → World → Prop) : Prop :=
  Calls P 103 ⟨[(.string code)]⟩ w fun e wv =>
  ∃ (t40 : ByteArray) (t41 : ByteArray) (t42 : Int) (t43 : Int), e = .returned (.agg #[(.string t40), (.string t41), (.int .i64 t42), (.int .i64 t43)]) ∧
  R (.bool (decide (t40 ≠ (S [])))) wv
theorem spec_CurKnown_eq (code : ByteArray) (w : World) (R : Value → World → Prop) : spec_CurKnown code w R = fsem P Tryd.f74 (fun k => []) [(.string code)] R w := by kernel_rfl
theorem spec_CurKnown_ret {code : ByteArray} {w : World} {R : Value → World → Prop} (h : spec_CurKnown code w R) : Ret P 74 [(.string code)] w R :=
  Ret.of_fsem Tryd.func74 rfl (Eq.mp (spec_CurKnown_eq code w R) h)
def impl_CurKnown (code : ByteArray) (w : World) (R : Value → World → Prop) : Prop :=
  Calls P 110 ⟨[(.string code)]⟩ w fun e wv =>
  ∃ (t70 : ByteArray) (t71 : ByteArray) (t72 : Int) (t73 : Int) (t7 : Bool), e = .returned (.tuple #[(.agg #[(.string t70), (.string t71), (.int .i64 t72), (.int .i64 t73)]), (.bool t7)]) ∧
  ∀ (r : Nat) (wv_1 : World), New wv (.cells ⟨[(.string ByteArray.empty), (.string ByteArray.empty), (.int .i64 0), (.int .i64 0)]⟩ 157 (0, 0)) r wv_1 →
  ∃ wv_2, Stores P 157 ⟨r, 0, none⟩ (.agg #[(.string t70), (.string t71), (.int .i64 t72), (.int .i64 t73)]) wv_1 wv_2 ∧
  R (.bool t7) wv_2
theorem impl_CurKnown_eq (code : ByteArray) (w : World) (R : Value → World → Prop) : impl_CurKnown code w R = fsem P Tryd.f80 (fun k => []) [(.string code)] R w := by kernel_rfl
theorem impl_CurKnown_ret {code : ByteArray} {w : World} {R : Value → World → Prop} (h : impl_CurKnown code w R) : Ret P 80 [(.string code)] w R :=
  Ret.of_fsem Tryd.func80 rfl (Eq.mp (impl_CurKnown_eq code w R) h)
def spec_MoneyOk (m0 : ByteArray) (m1 : Bool) (m2_p : Option Addr) (m2_n : Nat) (m2_c : Nat) (w : World) (R : Value → World → Prop) : Prop :=
  ∀ (r : Nat) (wv : World), New w (.cells ⟨[(.string m0), (.bool m1), (.slice m2_p m2_n m2_c)]⟩ 51 (0, 0)) r wv →
  ∃ (t4 : ByteArray), Loads P 9 ((⟨r, 0, none⟩ : Addr).add 0) (.string t4) wv ∧ Calls P 74 ⟨[(.string t4)]⟩ wv fun e wv_1 =>
  ∃ (t5 : Bool), e = .returned (.bool t5) ∧
  (t5 = true →
    ∃ (t80 : Bool) (t81_p : Option Addr) (t81_n : Nat) (t81_c : Nat), Loads P 38 ((⟨r, 0, none⟩ : Addr).add 1) (.agg #[(.bool t80), (.slice t81_p t81_n t81_c)]) wv_1 ∧ Calls P 104 ⟨[(.agg #[(.bool t80), (.slice t81_p t81_n t81_c)])]⟩ wv_1 fun e_1 wv_2 =>
    ∃ (t9 : Bool), e_1 = .returned (.bool t9) ∧
    (t9 = true →
      ∃ (t14_p : Option Addr) (t14_n : Nat) (t14_c : Nat), Loads P 31 (((⟨r, 0, none⟩ : Addr).add 1).add 1) (.slice t14_p t14_n t14_c) wv_2 ∧ R (.bool (decide ((((t14_n : Nat) : Int) : Int) ≤ 4))) wv_2) ∧
    (t9 = false →
      R (.bool false) wv_2)) ∧
  (t5 = false →
    (false = true →
      ∃ (t14_p_1 : Option Addr) (t14_n_1 : Nat) (t14_c_1 : Nat), Loads P 31 (((⟨r, 0, none⟩ : Addr).add 1).add 1) (.slice t14_p_1 t14_n_1 t14_c_1) wv_1 ∧ R (.bool (decide ((((t14_n_1 : Nat) : Int) : Int) ≤ 4))) wv_1) ∧
    (false = false →
      R (.bool false) wv_1))
theorem spec_MoneyOk_eq (m0 : ByteArray) (m1 : Bool) (m2_p : Option Addr) (m2_n : Nat) (m2_c : Nat) (w : World) (R : Value → World → Prop) : spec_MoneyOk m0 m1 m2_p m2_n m2_c w R = fsem P Tryd.f87 (fun k => []) [(.agg #[(.string m0), (.bool m1), (.slice m2_p m2_n m2_c)])] R w := by kernel_rfl
theorem spec_MoneyOk_ret {m0 : ByteArray} {m1 : Bool} {m2_p : Option Addr} {m2_n : Nat} {m2_c : Nat} {w : World} {R : Value → World → Prop} (h : spec_MoneyOk m0 m1 m2_p m2_n m2_c w R) : Ret P 87 [(.agg #[(.string m0), (.bool m1), (.slice m2_p m2_n m2_c)])] w R :=
  Ret.of_fsem Tryd.func87 rfl (Eq.mp (spec_MoneyOk_eq m0 m1 m2_p m2_n m2_c w R) h)
def spec_DecText_j0 (r : Nat) (s : ByteArray) (W : World) (R : Value → World → Prop) : Prop :=
  ∃ (t34 : Bool), Loads P 4 (((⟨r, 0, none⟩ : Addr).add 0).add 0) (.bool t34) W ∧ (t34 = true →
    (S [45]).size + s.size ≤ 9223372036854775807 ∧ ∃ t36 : ByteArray, t36 = (S [45]) ++ s ∧ R (.string t36) W) ∧
  (t34 = false →
    R (.string s) W)
def spec_DecText (d0 : Bool) (d1_p : Option Addr) (d1_n : Nat) (d1_c : Nat) (d2 : Int) (w : World) (R : Value → World → Prop) : Prop :=
  ∀ (r : Nat) (wv : World), New w (.cells ⟨[(.bool d0), (.slice d1_p d1_n d1_c), (.int .i64 d2)]⟩ 138 (0, 0)) r wv →
  ∃ (t50 : Bool) (t51_p : Option Addr) (t51_n : Nat) (t51_c : Nat) (t52 : Int), Loads P 138 ⟨r, 0, none⟩ (.agg #[(.bool t50), (.slice t51_p t51_n t51_c), (.int .i64 t52)]) wv ∧ Calls P 116 ⟨[(.agg #[(.bool t50), (.slice t51_p t51_n t51_c), (.int .i64 t52)])]⟩ wv fun e wv_1 =>
  ∃ (t6 : Bool), e = .returned (.bool t6) ∧
  ((!t6) = true →
    R (.string (S [])) wv_1) ∧
  ((!t6) = false →
    ∃ (t10_p : Option Addr) (t10_n : Nat) (t10_c : Nat), (∀ wv_2, Ext wv_1.drew wv_2 → Loads P 31 (((⟨r, 0, none⟩ : Addr).add 0).add 1) (.slice t10_p t10_n t10_c) wv_2) ∧ Calls P 101 ⟨[(.slice t10_p t10_n t10_c)]⟩ wv_1.drew fun e_1 wv_3 =>
    ∃ (t11 : ByteArray), e_1 = .returned (.string t11) ∧
    Ext wv_1.drew wv_3 ∧ ∃ (t13 : Int), (∀ wv_4, Ext wv_1.drew wv_4 → Loads P 3 ((⟨r, 0, none⟩ : Addr).add 2) (.int .i64 t13) wv_4) ∧ ∃ t14 : Int, t14 = IntKind.wrap .i64 (t13 + 1) ∧ Calls P 117 ⟨[(.string t11), (.int .i64 t14)]⟩ wv_3 fun e_2 wv_5 =>
    ∃ (t15 : ByteArray), e_2 = .returned (.string t15) ∧
    ∃ (t17 : Int), Loads P 3 ((⟨r, 0, none⟩ : Addr).add 2) (.int .i64 t17) wv_5 ∧ ((decide ((0 : Int) < t17)) = true →
      ∃ (t22 : Int), Loads P 3 ((⟨r, 0, none⟩ : Addr).add 2) (.int .i64 t22) wv_5 ∧ ∃ t23 : Int, t23 = IntKind.wrap .i64 (((t15.size : Nat) : Int) - t22) ∧ (0 ≤ (t23 : Int) ∧ (t23 : Int) ≤ (t15.size : Nat)) ∧ (t15.extract 0 t23.toNat).size + (S [46]).size ≤ 9223372036854775807 ∧ ∃ t27 : ByteArray, t27 = (t15.extract 0 t23.toNat) ++ (S [46]) ∧ (0 ≤ (t23 : Int) ∧ (t23 : Int) ≤ (t15.size : Nat)) ∧ t27.size + (t15.extract t23.toNat t15.size).size ≤ 9223372036854775807 ∧ ∃ t31 : ByteArray, t31 = t27 ++ (t15.extract t23.toNat t15.size) ∧ spec_DecText_j0 r t31 wv_5.drew R) ∧
    ((decide ((0 : Int) < t17)) = false →
      spec_DecText_j0 r t15 wv_5 R))
theorem spec_DecText_eq (d0 : Bool) (d1_p : Option Addr) (d1_n : Nat) (d1_c : Nat) (d2 : Int) (w : World) (R : Value → World → Prop) : spec_DecText d0 d1_p d1_n d1_c d2 w R = fsem P Tryd.f88 (fun k => []) [(.agg #[(.bool d0), (.slice d1_p d1_n d1_c), (.int .i64 d2)])] R w := by kernel_rfl
theorem spec_DecText_ret {d0 : Bool} {d1_p : Option Addr} {d1_n : Nat} {d1_c : Nat} {d2 : Int} {w : World} {R : Value → World → Prop} (h : spec_DecText d0 d1_p d1_n d1_c d2 w R) : Ret P 88 [(.agg #[(.bool d0), (.slice d1_p d1_n d1_c), (.int .i64 d2)])] w R :=
  Ret.of_fsem Tryd.func88 rfl (Eq.mp (spec_DecText_eq d0 d1_p d1_n d1_c d2 w R) h)
def spec_CurPlaces (code : ByteArray) (w : World) (R : Value → World → Prop) : Prop :=
  Calls P 103 ⟨[(.string code)]⟩ w fun e wv =>
  ∃ (t40 : ByteArray) (t41 : ByteArray) (t42 : Int) (t43 : Int), e = .returned (.agg #[(.string t40), (.string t41), (.int .i64 t42), (.int .i64 t43)]) ∧
  R (.int .i64 t42) wv
theorem spec_CurPlaces_eq (code : ByteArray) (w : World) (R : Value → World → Prop) : spec_CurPlaces code w R = fsem P Tryd.f89 (fun k => []) [(.string code)] R w := by kernel_rfl
theorem spec_CurPlaces_ret {code : ByteArray} {w : World} {R : Value → World → Prop} (h : spec_CurPlaces code w R) : Ret P 89 [(.string code)] w R :=
  Ret.of_fsem Tryd.func89 rfl (Eq.mp (spec_CurPlaces_eq code w R) h)
def impl_MoneyOk (m0 : ByteArray) (m1 : Bool) (m2_p : Option Addr) (m2_n : Nat) (m2_c : Nat) (w : World) (R : Value → World → Prop) : Prop :=
  ∀ (r : Nat) (wv : World), New w (.cells ⟨[(.string m0), (.bool m1), (.slice m2_p m2_n m2_c)]⟩ 51 (0, 0)) r wv →
  ∃ (t4 : ByteArray), Loads P 9 ((⟨r, 0, none⟩ : Addr).add 0) (.string t4) wv ∧ Calls P 80 ⟨[(.string t4)]⟩ wv fun e wv_1 =>
  ∃ (t5 : Bool), e = .returned (.bool t5) ∧
  (t5 = true →
    ∃ (t80 : Bool) (t81_p : Option Addr) (t81_n : Nat) (t81_c : Nat), Loads P 38 ((⟨r, 0, none⟩ : Addr).add 1) (.agg #[(.bool t80), (.slice t81_p t81_n t81_c)]) wv_1 ∧ Calls P 111 ⟨[(.agg #[(.bool t80), (.slice t81_p t81_n t81_c)])]⟩ wv_1 fun e_1 wv_2 =>
    ∃ (t9 : Bool), e_1 = .returned (.bool t9) ∧
    (t9 = true →
      ∃ (t14_p : Option Addr) (t14_n : Nat) (t14_c : Nat), Loads P 31 (((⟨r, 0, none⟩ : Addr).add 1).add 1) (.slice t14_p t14_n t14_c) wv_2 ∧ R (.bool (decide ((((t14_n : Nat) : Int) : Int) ≤ 4))) wv_2) ∧
    (t9 = false →
      R (.bool false) wv_2)) ∧
  (t5 = false →
    (false = true →
      ∃ (t14_p_1 : Option Addr) (t14_n_1 : Nat) (t14_c_1 : Nat), Loads P 31 (((⟨r, 0, none⟩ : Addr).add 1).add 1) (.slice t14_p_1 t14_n_1 t14_c_1) wv_1 ∧ R (.bool (decide ((((t14_n_1 : Nat) : Int) : Int) ≤ 4))) wv_1) ∧
    (false = false →
      R (.bool false) wv_1))
theorem impl_MoneyOk_eq (m0 : ByteArray) (m1 : Bool) (m2_p : Option Addr) (m2_n : Nat) (m2_c : Nat) (w : World) (R : Value → World → Prop) : impl_MoneyOk m0 m1 m2_p m2_n m2_c w R = fsem P Tryd.f91 (fun k => []) [(.agg #[(.string m0), (.bool m1), (.slice m2_p m2_n m2_c)])] R w := by kernel_rfl
theorem impl_MoneyOk_ret {m0 : ByteArray} {m1 : Bool} {m2_p : Option Addr} {m2_n : Nat} {m2_c : Nat} {w : World} {R : Value → World → Prop} (h : impl_MoneyOk m0 m1 m2_p m2_n m2_c w R) : Ret P 91 [(.agg #[(.string m0), (.bool m1), (.slice m2_p m2_n m2_c)])] w R :=
  Ret.of_fsem Tryd.func91 rfl (Eq.mp (impl_MoneyOk_eq m0 m1 m2_p m2_n m2_c w R) h)
def impl_DecText_j1 (text_1 : ByteArray) (W_1 : World) (R : Value → World → Prop) : Prop :=
  R (.string text_1) W_1
def impl_DecText_j0 (r : Nat) (text : ByteArray) (W : World) (R : Value → World → Prop) : Prop :=
  ∃ (t34 : Bool), Loads P 4 (((⟨r, 0, none⟩ : Addr).add 0).add 0) (.bool t34) W ∧ (t34 = true →
    (S [45]).size + text.size ≤ 9223372036854775807 ∧ ∃ t36 : ByteArray, t36 = (S [45]) ++ text ∧ impl_DecText_j1 t36 W R) ∧
  (t34 = false →
    impl_DecText_j1 text W R)
def impl_DecText (d0 : Bool) (d1_p : Option Addr) (d1_n : Nat) (d1_c : Nat) (d2 : Int) (w : World) (R : Value → World → Prop) : Prop :=
  ∀ (r : Nat) (wv : World), New w (.cells ⟨[(.bool d0), (.slice d1_p d1_n d1_c), (.int .i64 d2)]⟩ 138 (0, 0)) r wv →
  ∃ (t50 : Bool) (t51_p : Option Addr) (t51_n : Nat) (t51_c : Nat) (t52 : Int), Loads P 138 ⟨r, 0, none⟩ (.agg #[(.bool t50), (.slice t51_p t51_n t51_c), (.int .i64 t52)]) wv ∧ Calls P 118 ⟨[(.agg #[(.bool t50), (.slice t51_p t51_n t51_c), (.int .i64 t52)])]⟩ wv fun e wv_1 =>
  ∃ (t6 : Bool), e = .returned (.bool t6) ∧
  ((!t6) = true →
    R (.string (S [])) wv_1) ∧
  ((!t6) = false →
    ∃ (t10_p : Option Addr) (t10_n : Nat) (t10_c : Nat), (∀ wv_2, Ext wv_1.drew wv_2 → Loads P 31 (((⟨r, 0, none⟩ : Addr).add 0).add 1) (.slice t10_p t10_n t10_c) wv_2) ∧ Calls P 120 ⟨[(.slice t10_p t10_n t10_c)]⟩ wv_1.drew fun e_1 wv_3 =>
    ∃ (t11 : ByteArray), e_1 = .returned (.string t11) ∧
    Ext wv_1.drew wv_3 ∧ ∃ (t13 : Int), (∀ wv_4, Ext wv_1.drew wv_4 → Loads P 3 ((⟨r, 0, none⟩ : Addr).add 2) (.int .i64 t13) wv_4) ∧ ∃ t14 : Int, t14 = IntKind.wrap .i64 (t13 + 1) ∧ Calls P 119 ⟨[(.string t11), (.int .i64 t14)]⟩ wv_3 fun e_2 wv_5 =>
    ∃ (t15 : ByteArray), e_2 = .returned (.string t15) ∧
    ∃ (t17 : Int), Loads P 3 ((⟨r, 0, none⟩ : Addr).add 2) (.int .i64 t17) wv_5 ∧ ((decide ((0 : Int) < t17)) = true →
      ∃ (t22 : Int), Loads P 3 ((⟨r, 0, none⟩ : Addr).add 2) (.int .i64 t22) wv_5 ∧ ∃ t23 : Int, t23 = IntKind.wrap .i64 (((t15.size : Nat) : Int) - t22) ∧ (0 ≤ (t23 : Int) ∧ (t23 : Int) ≤ (t15.size : Nat)) ∧ (t15.extract 0 t23.toNat).size + (S [46]).size ≤ 9223372036854775807 ∧ ∃ t27 : ByteArray, t27 = (t15.extract 0 t23.toNat) ++ (S [46]) ∧ (0 ≤ (t23 : Int) ∧ (t23 : Int) ≤ (t15.size : Nat)) ∧ t27.size + (t15.extract t23.toNat t15.size).size ≤ 9223372036854775807 ∧ ∃ t31 : ByteArray, t31 = t27 ++ (t15.extract t23.toNat t15.size) ∧ impl_DecText_j0 r t31 wv_5.drew R) ∧
    ((decide ((0 : Int) < t17)) = false →
      impl_DecText_j0 r t15 wv_5 R))
theorem impl_DecText_eq (d0 : Bool) (d1_p : Option Addr) (d1_n : Nat) (d1_c : Nat) (d2 : Int) (w : World) (R : Value → World → Prop) : impl_DecText d0 d1_p d1_n d1_c d2 w R = fsem P Tryd.f92 (fun k => []) [(.agg #[(.bool d0), (.slice d1_p d1_n d1_c), (.int .i64 d2)])] R w := by kernel_rfl
theorem impl_DecText_ret {d0 : Bool} {d1_p : Option Addr} {d1_n : Nat} {d1_c : Nat} {d2 : Int} {w : World} {R : Value → World → Prop} (h : impl_DecText d0 d1_p d1_n d1_c d2 w R) : Ret P 92 [(.agg #[(.bool d0), (.slice d1_p d1_n d1_c), (.int .i64 d2)])] w R :=
  Ret.of_fsem Tryd.func92 rfl (Eq.mp (impl_DecText_eq d0 d1_p d1_n d1_c d2 w R) h)
def impl_CurPlaces (code : ByteArray) (w : World) (R : Value → World → Prop) : Prop :=
  Calls P 110 ⟨[(.string code)]⟩ w fun e wv =>
  ∃ (t70 : ByteArray) (t71 : ByteArray) (t72 : Int) (t73 : Int) (t7 : Bool), e = .returned (.tuple #[(.agg #[(.string t70), (.string t71), (.int .i64 t72), (.int .i64 t73)]), (.bool t7)]) ∧
  ∀ (r : Nat) (wv_1 : World), New wv (.cells ⟨[(.string ByteArray.empty), (.string ByteArray.empty), (.int .i64 0), (.int .i64 0)]⟩ 157 (0, 0)) r wv_1 →
  ∃ wv_2, Stores P 157 ⟨r, 0, none⟩ (.agg #[(.string t70), (.string t71), (.int .i64 t72), (.int .i64 t73)]) wv_1 wv_2 ∧
  ∃ (t11 : Int), Loads P 3 ((⟨r, 0, none⟩ : Addr).add 2) (.int .i64 t11) wv_2 ∧ R (.int .i64 t11) wv_2
theorem impl_CurPlaces_eq (code : ByteArray) (w : World) (R : Value → World → Prop) : impl_CurPlaces code w R = fsem P Tryd.f93 (fun k => []) [(.string code)] R w := by kernel_rfl
theorem impl_CurPlaces_ret {code : ByteArray} {w : World} {R : Value → World → Prop} (h : impl_CurPlaces code w R) : Ret P 93 [(.string code)] w R :=
  Ret.of_fsem Tryd.func93 rfl (Eq.mp (impl_CurPlaces_eq code w R) h)
def spec_NatText (a_p : Option Addr) (a_n : Nat) (a_c : Nat) (w : World) (R : Value → World → Prop) : Prop :=
  Calls P 105 ⟨[(.slice a_p a_n a_c)]⟩ w fun e wv =>
  ∃ (t6 : Bool), e = .returned (.bool t6) ∧
  ((!t6) = true →
    R (.string (S [])) wv) ∧
  ((!t6) = false →
    ((decide ((((a_n : Nat) : Int) : Int) = 0)) = true →
      R (.string (S [48])) wv) ∧
    ((decide ((((a_n : Nat) : Int) : Int) = 0)) = false →
      ∃ t14 : Int, t14 = IntKind.wrap .i64 (((a_n : Nat) : Int) - 1) ∧ (0 ≤ (t14 : Int) ∧ (t14 : Int) < (a_n : Nat)) ∧ ptrS a_p fun ad => ∃ (t16 : Int), Loads P 3 (ad.add (t14.toNat * 1)) (.int .i64 t16) wv ∧ Calls P 124 ⟨[(.int .i64 t16)]⟩ wv fun e_1 wv_1 =>
      ∃ (t17 : ByteArray), e_1 = .returned (.string t17) ∧
      ∃ t20 : Int, t20 = IntKind.wrap .i64 (((a_n : Nat) : Int) - 2) ∧ ∃ (Inv : ByteArray → Int → World → Prop) (mu : ByteArray → Int → World → Nat), Inv t17 t20 wv_1 ∧
      ∀ (junk : Fr) (wv_2 : World) (s : ByteArray) (i : Int), Inv s i wv_2 →
        ((decide ((0 : Int) ≤ i)) = true →
          (0 ≤ (i : Int) ∧ (i : Int) < (a_n : Nat)) ∧ ptrS a_p fun ad_1 => ∃ (t29 : Int), Loads P 3 (ad_1.add (i.toNat * 1)) (.int .i64 t29) wv_2 ∧ Calls P 124 ⟨[(.int .i64 t29)]⟩ wv_2 fun e_2 wv_3 =>
          ∃ (t30 : ByteArray), e_2 = .returned (.string t30) ∧
          Calls P 117 ⟨[(.string t30), (.int .i64 9)]⟩ wv_3 fun e_3 wv_4 =>
          ∃ (t31 : ByteArray), e_3 = .returned (.string t31) ∧
          s.size + t31.size ≤ 9223372036854775807 ∧ ∃ t32 : ByteArray, t32 = s ++ t31 ∧ ∃ t24 : Int, t24 = IntKind.wrap .i64 (i - 1) ∧ Inv t32 t24 wv_4 ∧ mu t32 t24 wv_4 < mu s i wv_2) ∧
        ((decide ((0 : Int) ≤ i)) = false →
          R (.string s) wv_2)))
theorem spec_NatText_eq (a_p : Option Addr) (a_n : Nat) (a_c : Nat) (w : World) (R : Value → World → Prop) : spec_NatText a_p a_n a_c w R = fsem P Tryd.f101 (fun k => cond (Nat.beq k 8) [(3, .one .str), (4, .one (.int .i64))] ([])) [(.slice a_p a_n a_c)] R w := by kernel_rfl
theorem spec_NatText_ret {a_p : Option Addr} {a_n : Nat} {a_c : Nat} {w : World} {R : Value → World → Prop} (h : spec_NatText a_p a_n a_c w R) : Ret P 101 [(.slice a_p a_n a_c)] w R :=
  Ret.of_fsem Tryd.func101 rfl (Eq.mp (spec_NatText_eq a_p a_n a_c w R) h)
def spec_l08Find (code : ByteArray) (w : World) (R : Value → World → Prop) : Prop :=
  ∀ (r : Nat) (wv : World), New w (.cells ⟨[(.string ByteArray.empty), (.string ByteArray.empty), (.int .i64 0), (.int .i64 0)]⟩ 148 (0, 0)) r wv →
  Calls P 128 ⟨[]⟩ wv fun e wv_1 =>
  ∃ (t5_p : Option Addr) (t5_n : Nat) (t5_c : Nat), e = .returned (.slice t5_p t5_n t5_c) ∧
  ∃ (Inv : Int → World → Prop) (mu : Int → World → Nat), Inv 0 wv_1 ∧
  ∀ (junk : Fr) (wv_2 : World) (t7 : Int), Inv t7 wv_2 →
    ((decide ((t7 : Int) < ((t5_n : Nat) : Int))) = true →
      (0 ≤ (t7 : Int) ∧ (t7 : Int) < (t5_n : Nat)) ∧ ptrS t5_p fun ad => ∃ (t100 : ByteArray) (t101 : ByteArray) (t102 : Int) (t103 : Int), Loads P 148 (ad.add (t7.toNat * 4)) (.agg #[(.string t100), (.string t101), (.int .i64 t102), (.int .i64 t103)]) wv_2 ∧ ∀ (r_1 : Nat) (wv_3 : World), New wv_2 (.cells ⟨[(.string ByteArray.empty), (.string ByteArray.empty), (.int .i64 0), (.int .i64 0)]⟩ 148 (0, 0)) r_1 wv_3 →
      ∃ wv_4, Stores P 148 ⟨r_1, 0, none⟩ (.agg #[(.string t100), (.string t101), (.int .i64 t102), (.int .i64 t103)]) wv_3 wv_4 ∧
      ∃ (t12 : ByteArray), Loads P 9 ((⟨r_1, 0, none⟩ : Addr).add 0) (.string t12) wv_4 ∧ ((decide (t12 = code)) = true →
        ∃ (t150 : ByteArray) (t151 : ByteArray) (t152 : Int) (t153 : Int), Loads P 148 ⟨r_1, 0, none⟩ (.agg #[(.string t150), (.string t151), (.int .i64 t152), (.int .i64 t153)]) wv_4 ∧ ∃ wv_5, Stores P 148 ⟨r, 0, none⟩ (.agg #[(.string t150), (.string t151), (.int .i64 t152), (.int .i64 t153)]) wv_4 wv_5 ∧
        ∃ (r0 : ByteArray) (r1 : ByteArray) (r2 : Int) (r3 : Int), Loads P 148 ⟨r, 0, none⟩ (.agg #[(.string r0), (.string r1), (.int .i64 r2), (.int .i64 r3)]) wv_5 ∧ R (.agg #[(.string r0), (.string r1), (.int .i64 r2), (.int .i64 r3)]) wv_5) ∧
      ((decide (t12 = code)) = false →
        ∃ t16 : Int, t16 = IntKind.wrap .i64 (t7 + 1) ∧ Inv t16 wv_4 ∧ mu t16 wv_4 < mu t7 wv_2)) ∧
    ((decide ((t7 : Int) < ((t5_n : Nat) : Int))) = false →
      ∃ wv_6, Stores P 148 ⟨r, 0, none⟩ (.agg #[(.string ByteArray.empty), (.string ByteArray.empty), (.int .i64 0), (.int .i64 0)]) wv_2 wv_6 ∧
      ∃ (r0_1 : ByteArray) (r1_1 : ByteArray) (r2_1 : Int) (r3_1 : Int), Loads P 148 ⟨r, 0, none⟩ (.agg #[(.string r0_1), (.string r1_1), (.int .i64 r2_1), (.int .i64 r3_1)]) wv_6 ∧ R (.agg #[(.string r0_1), (.string r1_1), (.int .i64 r2_1), (.int .i64 r3_1)]) wv_6)
theorem spec_l08Find_eq (code : ByteArray) (w : World) (R : Value → World → Prop) : spec_l08Find code w R = fsem P Tryd.f103 (fun k => cond (Nat.beq k 3) [(7, .one (.int .i64))] ([])) [(.string code)] R w := by kernel_rfl
theorem spec_l08Find_ret {code : ByteArray} {w : World} {R : Value → World → Prop} (h : spec_l08Find code w R) : Ret P 103 [(.string code)] w R :=
  Ret.of_fsem Tryd.func103 rfl (Eq.mp (spec_l08Find_eq code w R) h)
def spec_IntOk (x0 : Bool) (x1_p : Option Addr) (x1_n : Nat) (x1_c : Nat) (w : World) (R : Value → World → Prop) : Prop :=
  ∀ (r : Nat) (wv : World), New w (.cells ⟨[(.bool x0), (.slice x1_p x1_n x1_c)]⟩ 38 (0, 0)) r wv →
  ∃ (t4_p : Option Addr) (t4_n : Nat) (t4_c : Nat), Loads P 31 ((⟨r, 0, none⟩ : Addr).add 1) (.slice t4_p t4_n t4_c) wv ∧ Calls P 105 ⟨[(.slice t4_p t4_n t4_c)]⟩ wv fun e wv_1 =>
  ∃ (t5 : Bool), e = .returned (.bool t5) ∧
  (t5 = true →
    ∃ (t8 : Bool), Loads P 4 ((⟨r, 0, none⟩ : Addr).add 0) (.bool t8) wv_1 ∧ ((!t8) = true →
      R (.bool true) wv_1) ∧
    ((!t8) = false →
      ∃ (t12_p : Option Addr) (t12_n : Nat) (t12_c : Nat), Loads P 31 ((⟨r, 0, none⟩ : Addr).add 1) (.slice t12_p t12_n t12_c) wv_1 ∧ R (.bool (decide ((0 : Int) < ((t12_n : Nat) : Int)))) wv_1)) ∧
  (t5 = false →
    R (.bool false) wv_1)
theorem spec_IntOk_eq (x0 : Bool) (x1_p : Option Addr) (x1_n : Nat) (x1_c : Nat) (w : World) (R : Value → World → Prop) : spec_IntOk x0 x1_p x1_n x1_c w R = fsem P Tryd.f104 (fun k => []) [(.agg #[(.bool x0), (.slice x1_p x1_n x1_c)])] R w := by kernel_rfl
theorem spec_IntOk_ret {x0 : Bool} {x1_p : Option Addr} {x1_n : Nat} {x1_c : Nat} {w : World} {R : Value → World → Prop} (h : spec_IntOk x0 x1_p x1_n x1_c w R) : Ret P 104 [(.agg #[(.bool x0), (.slice x1_p x1_n x1_c)])] w R :=
  Ret.of_fsem Tryd.func104 rfl (Eq.mp (spec_IntOk_eq x0 x1_p x1_n x1_c w R) h)
def spec_NatOk (a_p : Option Addr) (a_n : Nat) (a_c : Nat) (w : World) (R : Value → World → Prop) : Prop :=
  ∃ (Inv : Int → World → Prop) (mu : Int → World → Nat), Inv 0 w ∧
  ∀ (junk : Fr) (wv : World) (t7 : Int), Inv t7 wv →
    ((decide ((t7 : Int) < ((a_n : Nat) : Int))) = true →
      (0 ≤ (t7 : Int) ∧ (t7 : Int) < (a_n : Nat)) ∧ ptrS a_p fun ad => ∃ (t10 : Int), Loads P 3 (ad.add (t7.toNat * 1)) (.int .i64 t10) wv ∧ Calls P 129 ⟨[(.int .i64 t10), (.int .i64 0), (.int .i64 999999999)]⟩ wv fun e wv_1 =>
      ∃ (t12 : Bool), e = .returned (.bool t12) ∧
      ((!t12) = true →
        R (.bool false) wv_1) ∧
      ((!t12) = false →
        ∃ t14 : Int, t14 = IntKind.wrap .i64 (t7 + 1) ∧ Inv t14 wv_1 ∧ mu t14 wv_1 < mu t7 wv)) ∧
    ((decide ((t7 : Int) < ((a_n : Nat) : Int))) = false →
      ((decide ((((a_n : Nat) : Int) : Int) ≤ 50)) = true →
        ((decide ((((a_n : Nat) : Int) : Int) = 0)) = true →
          R (.bool true) wv) ∧
        ((decide ((((a_n : Nat) : Int) : Int) = 0)) = false →
          ∃ t26 : Int, t26 = IntKind.wrap .i64 (((a_n : Nat) : Int) - 1) ∧ (0 ≤ (t26 : Int) ∧ (t26 : Int) < (a_n : Nat)) ∧ ptrS a_p fun ad_1 => ∃ (t28 : Int), Loads P 3 (ad_1.add (t26.toNat * 1)) (.int .i64 t28) wv ∧ R (.bool (decide ((t28 : Int) ≠ 0))) wv)) ∧
      ((decide ((((a_n : Nat) : Int) : Int) ≤ 50)) = false →
        R (.bool false) wv))
theorem spec_NatOk_eq (a_p : Option Addr) (a_n : Nat) (a_c : Nat) (w : World) (R : Value → World → Prop) : spec_NatOk a_p a_n a_c w R = fsem P Tryd.f105 (fun k => cond (Nat.beq k 3) [(7, .one (.int .i64))] ([])) [(.slice a_p a_n a_c)] R w := by kernel_rfl
theorem spec_NatOk_ret {a_p : Option Addr} {a_n : Nat} {a_c : Nat} {w : World} {R : Value → World → Prop} (h : spec_NatOk a_p a_n a_c w R) : Ret P 105 [(.slice a_p a_n a_c)] w R :=
  Ret.of_fsem Tryd.func105 rfl (Eq.mp (spec_NatOk_eq a_p a_n a_c w R) h)
def impl_currencyOf (code : ByteArray) (w : World) (R : Value → World → Prop) : Prop :=
  ∀ (r : Nat) (wv : World), New w (.cells ⟨[(.string ByteArray.empty), (.string ByteArray.empty), (.int .i64 0), (.int .i64 0)]⟩ 157 (0, 0)) r wv →
  ∃ (t6 : Value), Loads P 178 ⟨0, 0, none⟩ t6 wv ∧ ∃ (Inv : Int → World → Prop) (mu : Int → World → Nat), Inv 0 wv ∧
  ∀ (junk : Fr) (wv_1 : World) (t7 : Int), Inv t7 wv_1 →
    ((decide ((t7 : Int) < 20)) = true →
      indexS P 178 t6 (.int .i64 t7) fun (el : Value) => ∀ (r_1 : Nat) (wv_2 : World), New wv_1 (.cells ⟨[(.string ByteArray.empty), (.string ByteArray.empty), (.int .i64 0), (.int .i64 0)]⟩ 157 (0, 0)) r_1 wv_2 →
      ∃ wv_3, Stores P 157 ⟨r_1, 0, none⟩ el wv_2 wv_3 ∧
      ∃ (t11 : ByteArray), Loads P 9 ((⟨r_1, 0, none⟩ : Addr).add 0) (.string t11) wv_3 ∧ ((decide (t11 = code)) = true →
        ∃ (t140 : ByteArray) (t141 : ByteArray) (t142 : Int) (t143 : Int), Loads P 157 ⟨r_1, 0, none⟩ (.agg #[(.string t140), (.string t141), (.int .i64 t142), (.int .i64 t143)]) wv_3 ∧ ∃ wv_4, Stores P 157 ⟨r, 0, none⟩ (.agg #[(.string t140), (.string t141), (.int .i64 t142), (.int .i64 t143)]) wv_3 wv_4 ∧
        ∃ (r0 : ByteArray) (r1 : ByteArray) (r2 : Int) (r3 : Int), Loads P 157 ⟨r, 0, none⟩ (.agg #[(.string r0), (.string r1), (.int .i64 r2), (.int .i64 r3)]) wv_4 ∧ R (.tuple #[(.agg #[(.string r0), (.string r1), (.int .i64 r2), (.int .i64 r3)]), (.bool true)]) wv_4) ∧
      ((decide (t11 = code)) = false →
        ∃ t15 : Int, t15 = IntKind.wrap .i64 (t7 + 1) ∧ Inv t15 wv_3 ∧ mu t15 wv_3 < mu t7 wv_1)) ∧
    ((decide ((t7 : Int) < 20)) = false →
      ∃ wv_5, Stores P 157 ⟨r, 0, none⟩ (.agg #[(.string ByteArray.empty), (.string ByteArray.empty), (.int .i64 0), (.int .i64 0)]) wv_1 wv_5 ∧
      ∃ (r0_1 : ByteArray) (r1_1 : ByteArray) (r2_1 : Int) (r3_1 : Int), Loads P 157 ⟨r, 0, none⟩ (.agg #[(.string r0_1), (.string r1_1), (.int .i64 r2_1), (.int .i64 r3_1)]) wv_5 ∧ R (.tuple #[(.agg #[(.string r0_1), (.string r1_1), (.int .i64 r2_1), (.int .i64 r3_1)]), (.bool false)]) wv_5)
theorem impl_currencyOf_eq (code : ByteArray) (w : World) (R : Value → World → Prop) : impl_currencyOf code w R = fsem P Tryd.f110 (fun k => cond (Nat.beq k 3) [(7, .one (.int .i64))] ([])) [(.string code)] R w := by kernel_rfl
theorem impl_currencyOf_ret {code : ByteArray} {w : World} {R : Value → World → Prop} (h : impl_currencyOf code w R) : Ret P 110 [(.string code)] w R :=
  Ret.of_fsem Tryd.func110 rfl (Eq.mp (impl_currencyOf_eq code w R) h)
def impl_IntOk (x0 : Bool) (x1_p : Option Addr) (x1_n : Nat) (x1_c : Nat) (w : World) (R : Value → World → Prop) : Prop :=
  ∀ (r : Nat) (wv : World), New w (.cells ⟨[(.bool x0), (.slice x1_p x1_n x1_c)]⟩ 38 (0, 0)) r wv →
  ∃ (t4_p : Option Addr) (t4_n : Nat) (t4_c : Nat), Loads P 31 ((⟨r, 0, none⟩ : Addr).add 1) (.slice t4_p t4_n t4_c) wv ∧ Calls P 112 ⟨[(.slice t4_p t4_n t4_c)]⟩ wv fun e wv_1 =>
  ∃ (t5 : Bool), e = .returned (.bool t5) ∧
  (t5 = true →
    ∃ (t8 : Bool), Loads P 4 ((⟨r, 0, none⟩ : Addr).add 0) (.bool t8) wv_1 ∧ ((!t8) = true →
      R (.bool true) wv_1) ∧
    ((!t8) = false →
      ∃ (t12_p : Option Addr) (t12_n : Nat) (t12_c : Nat), Loads P 31 ((⟨r, 0, none⟩ : Addr).add 1) (.slice t12_p t12_n t12_c) wv_1 ∧ R (.bool (decide ((0 : Int) < ((t12_n : Nat) : Int)))) wv_1)) ∧
  (t5 = false →
    R (.bool false) wv_1)
theorem impl_IntOk_eq (x0 : Bool) (x1_p : Option Addr) (x1_n : Nat) (x1_c : Nat) (w : World) (R : Value → World → Prop) : impl_IntOk x0 x1_p x1_n x1_c w R = fsem P Tryd.f111 (fun k => []) [(.agg #[(.bool x0), (.slice x1_p x1_n x1_c)])] R w := by kernel_rfl
theorem impl_IntOk_ret {x0 : Bool} {x1_p : Option Addr} {x1_n : Nat} {x1_c : Nat} {w : World} {R : Value → World → Prop} (h : impl_IntOk x0 x1_p x1_n x1_c w R) : Ret P 111 [(.agg #[(.bool x0), (.slice x1_p x1_n x1_c)])] w R :=
  Ret.of_fsem Tryd.func111 rfl (Eq.mp (impl_IntOk_eq x0 x1_p x1_n x1_c w R) h)
def impl_NatOk_j0 (a_p : Option Addr) (a_n : Nat) (W : World) (R : Value → World → Prop) : Prop :=
  ∃ (Inv : Int → World → Prop) (mu : Int → World → Nat), Inv 0 W ∧
  ∀ (junk : Fr) (wv : World) (t24 : Int), Inv t24 wv →
    ((decide ((t24 : Int) < ((a_n : Nat) : Int))) = true →
      (0 ≤ (t24 : Int) ∧ (t24 : Int) < (a_n : Nat)) ∧ ptrS a_p fun ad => ∃ (t27 : Int), Loads P 3 (ad.add (t24.toNat * 1)) (.int .i64 t27) wv ∧ ((decide ((t27 : Int) < 0)) = true →
        (true = true →
          R (.bool false) wv) ∧
        (true = false →
          ∃ t34 : Int, t34 = IntKind.wrap .i64 (t24 + 1) ∧ Inv t34 wv ∧ mu t34 wv < mu t24 wv)) ∧
      ((decide ((t27 : Int) < 0)) = false →
        ((decide ((1000000000 : Int) ≤ t27)) = true →
          R (.bool false) wv) ∧
        ((decide ((1000000000 : Int) ≤ t27)) = false →
          ∃ t34_1 : Int, t34_1 = IntKind.wrap .i64 (t24 + 1) ∧ Inv t34_1 wv ∧ mu t34_1 wv < mu t24 wv))) ∧
    ((decide ((t24 : Int) < ((a_n : Nat) : Int))) = false →
      R (.bool true) wv)
def impl_NatOk (a_p : Option Addr) (a_n : Nat) (a_c : Nat) (w : World) (R : Value → World → Prop) : Prop :=
  ((decide ((50 : Int) < ((a_n : Nat) : Int))) = true →
    (true = true →
      R (.bool false) w) ∧
    (true = false →
      impl_NatOk_j0 a_p a_n w R)) ∧
  ((decide ((50 : Int) < ((a_n : Nat) : Int))) = false →
    ((decide ((0 : Int) < ((a_n : Nat) : Int))) = true →
      ∃ t16 : Int, t16 = IntKind.wrap .i64 (((a_n : Nat) : Int) - 1) ∧ (0 ≤ (t16 : Int) ∧ (t16 : Int) < (a_n : Nat)) ∧ ptrS a_p fun ad_1 => ∃ (t18 : Int), Loads P 3 (ad_1.add (t16.toNat * 1)) (.int .i64 t18) w ∧ ((decide ((t18 : Int) = 0)) = true →
        R (.bool false) w) ∧
      ((decide ((t18 : Int) = 0)) = false →
        impl_NatOk_j0 a_p a_n w R)) ∧
    ((decide ((0 : Int) < ((a_n : Nat) : Int))) = false →
      (false = true →
        R (.bool false) w) ∧
      (false = false →
        impl_NatOk_j0 a_p a_n w R)))
theorem impl_NatOk_eq (a_p : Option Addr) (a_n : Nat) (a_c : Nat) (w : World) (R : Value → World → Prop) : impl_NatOk a_p a_n a_c w R = fsem P Tryd.f112 (fun k => cond (Nat.beq k 5) [(24, .one (.int .i64))] ([])) [(.slice a_p a_n a_c)] R w := by kernel_rfl
theorem impl_NatOk_ret {a_p : Option Addr} {a_n : Nat} {a_c : Nat} {w : World} {R : Value → World → Prop} (h : impl_NatOk a_p a_n a_c w R) : Ret P 112 [(.slice a_p a_n a_c)] w R :=
  Ret.of_fsem Tryd.func112 rfl (Eq.mp (impl_NatOk_eq a_p a_n a_c w R) h)
def spec_DecOk (d0 : Bool) (d1_p : Option Addr) (d1_n : Nat) (d1_c : Nat) (d2 : Int) (w : World) (R : Value → World → Prop) : Prop :=
  ∀ (r : Nat) (wv : World), New w (.cells ⟨[(.bool d0), (.slice d1_p d1_n d1_c), (.int .i64 d2)]⟩ 138 (0, 0)) r wv →
  ∃ (t40 : Bool) (t41_p : Option Addr) (t41_n : Nat) (t41_c : Nat), Loads P 38 ((⟨r, 0, none⟩ : Addr).add 0) (.agg #[(.bool t40), (.slice t41_p t41_n t41_c)]) wv ∧ Calls P 104 ⟨[(.agg #[(.bool t40), (.slice t41_p t41_n t41_c)])]⟩ wv fun e wv_1 =>
  ∃ (t5 : Bool), e = .returned (.bool t5) ∧
  (t5 = true →
    ∃ (t9_p : Option Addr) (t9_n : Nat) (t9_c : Nat), Loads P 31 (((⟨r, 0, none⟩ : Addr).add 0).add 1) (.slice t9_p t9_n t9_c) wv_1 ∧ ((decide ((((t9_n : Nat) : Int) : Int) ≤ 6)) = true →
      ∃ (t15 : Int), Loads P 3 ((⟨r, 0, none⟩ : Addr).add 2) (.int .i64 t15) wv_1 ∧ Calls P 129 ⟨[(.int .i64 t15), (.int .i64 0), (.int .i64 30)]⟩ wv_1 fun e_1 wv_2 =>
      ∃ (t16 : Bool), e_1 = .returned (.bool t16) ∧
      R (.bool t16) wv_2) ∧
    ((decide ((((t9_n : Nat) : Int) : Int) ≤ 6)) = false →
      R (.bool false) wv_1)) ∧
  (t5 = false →
    (false = true →
      ∃ (t15_1 : Int), Loads P 3 ((⟨r, 0, none⟩ : Addr).add 2) (.int .i64 t15_1) wv_1 ∧ Calls P 129 ⟨[(.int .i64 t15_1), (.int .i64 0), (.int .i64 30)]⟩ wv_1 fun e_2 wv_3 =>
      ∃ (t16_1 : Bool), e_2 = .returned (.bool t16_1) ∧
      R (.bool t16_1) wv_3) ∧
    (false = false →
      R (.bool false) wv_1))
theorem spec_DecOk_eq (d0 : Bool) (d1_p : Option Addr) (d1_n : Nat) (d1_c : Nat) (d2 : Int) (w : World) (R : Value → World → Prop) : spec_DecOk d0 d1_p d1_n d1_c d2 w R = fsem P Tryd.f116 (fun k => []) [(.agg #[(.bool d0), (.slice d1_p d1_n d1_c), (.int .i64 d2)])] R w := by kernel_rfl
theorem spec_DecOk_ret {d0 : Bool} {d1_p : Option Addr} {d1_n : Nat} {d1_c : Nat} {d2 : Int} {w : World} {R : Value → World → Prop} (h : spec_DecOk d0 d1_p d1_n d1_c d2 w R) : Ret P 116 [(.agg #[(.bool d0), (.slice d1_p d1_n d1_c), (.int .i64 d2)])] w R :=
  Ret.of_fsem Tryd.func116 rfl (Eq.mp (spec_DecOk_eq d0 d1_p d1_n d1_c d2 w R) h)
def spec_Pad (s : ByteArray) (n : Int) (w : World) (R : Value → World → Prop) : Prop :=
  ((decide ((2000 : Int) < n)) = true →
    R (.string s) w) ∧
  ((decide ((2000 : Int) < n)) = false →
    ∃ (Inv : ByteArray → World → Prop) (mu : ByteArray → World → Nat), Inv s w ∧
    ∀ (junk : Fr) (wv : World) (s_1 : ByteArray), Inv s_1 wv →
      ((decide ((((s_1.size : Nat) : Int) : Int) < n)) = true →
        (S [48]).size + s_1.size ≤ 9223372036854775807 ∧ ∃ t13 : ByteArray, t13 = (S [48]) ++ s_1 ∧ Inv t13 wv ∧ mu t13 wv < mu s_1 wv) ∧
      ((decide ((((s_1.size : Nat) : Int) : Int) < n)) = false →
        R (.string s_1) wv))
theorem spec_Pad_eq (s : ByteArray) (n : Int) (w : World) (R : Value → World → Prop) : spec_Pad s n w R = fsem P Tryd.f117 (fun k => cond (Nat.beq k 4) [(0, .one .str)] ([])) [(.string s), (.int .i64 n)] R w := by kernel_rfl
theorem spec_Pad_ret {s : ByteArray} {n : Int} {w : World} {R : Value → World → Prop} (h : spec_Pad s n w R) : Ret P 117 [(.string s), (.int .i64 n)] w R :=
  Ret.of_fsem Tryd.func117 rfl (Eq.mp (spec_Pad_eq s n w R) h)
def impl_DecOk (d0 : Bool) (d1_p : Option Addr) (d1_n : Nat) (d1_c : Nat) (d2 : Int) (w : World) (R : Value → World → Prop) : Prop :=
  ∀ (r : Nat) (wv : World), New w (.cells ⟨[(.bool d0), (.slice d1_p d1_n d1_c), (.int .i64 d2)]⟩ 138 (0, 0)) r wv →
  ∃ (t40 : Bool) (t41_p : Option Addr) (t41_n : Nat) (t41_c : Nat), Loads P 38 ((⟨r, 0, none⟩ : Addr).add 0) (.agg #[(.bool t40), (.slice t41_p t41_n t41_c)]) wv ∧ Calls P 111 ⟨[(.agg #[(.bool t40), (.slice t41_p t41_n t41_c)])]⟩ wv fun e wv_1 =>
  ∃ (t5 : Bool), e = .returned (.bool t5) ∧
  (t5 = true →
    ∃ (t9_p : Option Addr) (t9_n : Nat) (t9_c : Nat), Loads P 31 (((⟨r, 0, none⟩ : Addr).add 0).add 1) (.slice t9_p t9_n t9_c) wv_1 ∧ ((decide ((((t9_n : Nat) : Int) : Int) ≤ 6)) = true →
      ∃ (t15 : Int), Loads P 3 ((⟨r, 0, none⟩ : Addr).add 2) (.int .i64 t15) wv_1 ∧ Calls P 135 ⟨[(.int .i64 t15)]⟩ wv_1 fun e_1 wv_2 =>
      ∃ (t16 : Bool), e_1 = .returned (.bool t16) ∧
      R (.bool t16) wv_2) ∧
    ((decide ((((t9_n : Nat) : Int) : Int) ≤ 6)) = false →
      R (.bool false) wv_1)) ∧
  (t5 = false →
    (false = true →
      ∃ (t15_1 : Int), Loads P 3 ((⟨r, 0, none⟩ : Addr).add 2) (.int .i64 t15_1) wv_1 ∧ Calls P 135 ⟨[(.int .i64 t15_1)]⟩ wv_1 fun e_2 wv_3 =>
      ∃ (t16_1 : Bool), e_2 = .returned (.bool t16_1) ∧
      R (.bool t16_1) wv_3) ∧
    (false = false →
      R (.bool false) wv_1))
theorem impl_DecOk_eq (d0 : Bool) (d1_p : Option Addr) (d1_n : Nat) (d1_c : Nat) (d2 : Int) (w : World) (R : Value → World → Prop) : impl_DecOk d0 d1_p d1_n d1_c d2 w R = fsem P Tryd.f118 (fun k => []) [(.agg #[(.bool d0), (.slice d1_p d1_n d1_c), (.int .i64 d2)])] R w := by kernel_rfl
theorem impl_DecOk_ret {d0 : Bool} {d1_p : Option Addr} {d1_n : Nat} {d1_c : Nat} {d2 : Int} {w : World} {R : Value → World → Prop} (h : impl_DecOk d0 d1_p d1_n d1_c d2 w R) : Ret P 118 [(.agg #[(.bool d0), (.slice d1_p d1_n d1_c), (.int .i64 d2)])] w R :=
  Ret.of_fsem Tryd.func118 rfl (Eq.mp (impl_DecOk_eq d0 d1_p d1_n d1_c d2 w R) h)
def impl_Pad (s : ByteArray) (n : Int) (w : World) (R : Value → World → Prop) : Prop :=
  ((decide ((n : Int) ≤ ((s.size : Nat) : Int))) = true →
    (true = true →
      R (.string s) w) ∧
    (true = false →
      ∃ t17 : Int, t17 = IntKind.wrap .i64 (n - ((s.size : Nat) : Int)) ∧ Calls P 136 ⟨[(.string (S [48])), (.int .i64 t17)]⟩ w fun e wv =>
      ∃ (t18 : ByteArray), e = .returned (.string t18) ∧
      t18.size + s.size ≤ 9223372036854775807 ∧ ∃ t20 : ByteArray, t20 = t18 ++ s ∧ R (.string t20) wv)) ∧
  ((decide ((n : Int) ≤ ((s.size : Nat) : Int))) = false →
    ((decide ((2000 : Int) < n)) = true →
      R (.string s) w) ∧
    ((decide ((2000 : Int) < n)) = false →
      ∃ t17_1 : Int, t17_1 = IntKind.wrap .i64 (n - ((s.size : Nat) : Int)) ∧ Calls P 136 ⟨[(.string (S [48])), (.int .i64 t17_1)]⟩ w fun e_1 wv_1 =>
      ∃ (t18_1 : ByteArray), e_1 = .returned (.string t18_1) ∧
      t18_1.size + s.size ≤ 9223372036854775807 ∧ ∃ t20_1 : ByteArray, t20_1 = t18_1 ++ s ∧ R (.string t20_1) wv_1))
theorem impl_Pad_eq (s : ByteArray) (n : Int) (w : World) (R : Value → World → Prop) : impl_Pad s n w R = fsem P Tryd.f119 (fun k => []) [(.string s), (.int .i64 n)] R w := by kernel_rfl
theorem impl_Pad_ret {s : ByteArray} {n : Int} {w : World} {R : Value → World → Prop} (h : impl_Pad s n w R) : Ret P 119 [(.string s), (.int .i64 n)] w R :=
  Ret.of_fsem Tryd.func119 rfl (Eq.mp (impl_Pad_eq s n w R) h)
end Go.Proofs.YtpaekkcgphljoaaDoor

namespace Go.Proofs.YtpaekkcgphljoaaDoor
open Go Go.Proofs.YtpaekkcgphljoaaDoor.Sx
set_option linter.unusedVariables false
set_option maxRecDepth 100000
def impl_natText (a_p : Option Addr) (a_n : Nat) (a_c : Nat) (w : World) (R : Value → World → Prop) : Prop :=
  ((decide ((((a_n : Nat) : Int) : Int) = 0)) = true →
    R (.string (S [48])) w) ∧
  ((decide ((((a_n : Nat) : Int) : Int) = 0)) = false →
    ∃ t11 : Int, t11 = IntKind.wrap .i64 (((a_n : Nat) : Int) - 1) ∧ (0 ≤ (t11 : Int) ∧ (t11 : Int) < (a_n : Nat)) ∧ ptrS a_p fun ad => ∃ (t13 : Int), Loads P 3 (ad.add (t11.toNat * 1)) (.int .i64 t13) w ∧ Calls P 137 ⟨[(.int .i64 t13)]⟩ w fun e wv =>
    ∃ (t14 : ByteArray), e = .returned (.string t14) ∧
    ∃ t17 : Int, t17 = IntKind.wrap .i64 (((a_n : Nat) : Int) - 2) ∧ ∃ (Inv : ByteArray → Int → World → Prop) (mu : ByteArray → Int → World → Nat), Inv t14 t17 wv ∧
    ∀ (junk : Fr) (wv_1 : World) (text : ByteArray) (i : Int), Inv text i wv_1 →
      ((decide ((0 : Int) ≤ i)) = true →
        (0 ≤ (i : Int) ∧ (i : Int) < (a_n : Nat)) ∧ ptrS a_p fun ad_1 => ∃ (t26 : Int), Loads P 3 (ad_1.add (i.toNat * 1)) (.int .i64 t26) wv_1 ∧ Calls P 137 ⟨[(.int .i64 t26)]⟩ wv_1 fun e_1 wv_2 =>
        ∃ (t27 : ByteArray), e_1 = .returned (.string t27) ∧
        Calls P 119 ⟨[(.string t27), (.int .i64 9)]⟩ wv_2 fun e_2 wv_3 =>
        ∃ (t28 : ByteArray), e_2 = .returned (.string t28) ∧
        text.size + t28.size ≤ 9223372036854775807 ∧ ∃ t29 : ByteArray, t29 = text ++ t28 ∧ ∃ t21 : Int, t21 = IntKind.wrap .i64 (i - 1) ∧ Inv t29 t21 wv_3 ∧ mu t29 t21 wv_3 < mu text i wv_1) ∧
      ((decide ((0 : Int) ≤ i)) = false →
        R (.string text) wv_1))
theorem impl_natText_eq (a_p : Option Addr) (a_n : Nat) (a_c : Nat) (w : World) (R : Value → World → Prop) : impl_natText a_p a_n a_c w R = fsem P Tryd.f120 (fun k => cond (Nat.beq k 6) [(3, .one .str), (4, .one (.int .i64))] ([])) [(.slice a_p a_n a_c)] R w := by kernel_rfl
theorem impl_natText_ret {a_p : Option Addr} {a_n : Nat} {a_c : Nat} {w : World} {R : Value → World → Prop} (h : impl_natText a_p a_n a_c w R) : Ret P 120 [(.slice a_p a_n a_c)] w R :=
  Ret.of_fsem Tryd.func120 rfl (Eq.mp (impl_natText_eq a_p a_n a_c w R) h)
def spec_IntText (n : Int) (w : World) (R : Value → World → Prop) : Prop :=
  ((decide ((n : Int) < 0)) = true →
    (10 : Int) ≠ 0 ∧ ∃ t7 : Int, t7 = IntKind.wrap .i64 (Int.tdiv n 10) ∧ ((decide ((t7 : Int) = 0)) = true →
      ∃ t10 : Int, t10 = IntKind.wrap .i64 (48 - n) ∧ ∃ t11 : Int, t11 = IntKind.wrap .u8 t10 ∧ ∀ (r : Nat) (wv : World), New w (.cells ⟨[(.int .u8 t11)]⟩ 5 (0, 0)) r wv →
      ∃ (t13 : ByteArray), Convs P 133 9 (.slice (some ⟨r, 0, none⟩) 1 1) (.string t13) wv ∧ (S [45]).size + t13.size ≤ 9223372036854775807 ∧ ∃ t14 : ByteArray, t14 = (S [45]) ++ t13 ∧ R (.string t14) wv) ∧
    ((decide ((t7 : Int) = 0)) = false →
      False)) ∧
  ((decide ((n : Int) < 0)) = false →
    ∃ (Inv : Int → ByteArray → World → Prop) (mu : Int → ByteArray → World → Nat), Inv n (S []) w ∧
    ∀ (junk : Fr) (wv_1 : World) (n_1 : Int) (s : ByteArray), Inv n_1 s wv_1 →
      ((decide ((9 : Int) < n_1)) = true →
        (10 : Int) ≠ 0 ∧ ∃ t28 : Int, t28 = Int.tmod n_1 10 ∧ ∃ t29 : Int, t29 = IntKind.wrap .i64 (48 + t28) ∧ ∃ t30 : Int, t30 = IntKind.wrap .u8 t29 ∧ ∀ (r_1 : Nat) (wv_2 : World), New wv_1 (.cells ⟨[(.int .u8 t30)]⟩ 5 (0, 0)) r_1 wv_2 →
        ∃ (t32 : ByteArray), Convs P 133 9 (.slice (some ⟨r_1, 0, none⟩) 1 1) (.string t32) wv_2 ∧ t32.size + s.size ≤ 9223372036854775807 ∧ ∃ t34 : ByteArray, t34 = t32 ++ s ∧ (10 : Int) ≠ 0 ∧ ∃ t36 : Int, t36 = IntKind.wrap .i64 (Int.tdiv n_1 10) ∧ Inv t36 t34 wv_2 ∧ mu t36 t34 wv_2 < mu n_1 s wv_1) ∧
      ((decide ((9 : Int) < n_1)) = false →
        ∃ t38 : Int, t38 = IntKind.wrap .i64 (48 + n_1) ∧ ∃ t39 : Int, t39 = IntKind.wrap .u8 t38 ∧ ∀ (r_2 : Nat) (wv_3 : World), New wv_1 (.cells ⟨[(.int .u8 t39)]⟩ 5 (0, 0)) r_2 wv_3 →
        ∃ (t41 : ByteArray), Convs P 133 9 (.slice (some ⟨r_2, 0, none⟩) 1 1) (.string t41) wv_3 ∧ t41.size + s.size ≤ 9223372036854775807 ∧ ∃ t43 : ByteArray, t43 = t41 ++ s ∧ R (.string t43) wv_3))
theorem spec_IntText_eq (n : Int) (w : World) (R : Value → World → Prop) : spec_IntText n w R = fsem P Tryd.f124 (fun k => cond (Nat.beq k 7) [(0, .one (.int .i64)), (3, .one .str)] ([])) [(.int .i64 n)] R w := by kernel_rfl
theorem spec_IntText_ret {n : Int} {w : World} {R : Value → World → Prop} (h : spec_IntText n w R) : Ret P 124 [(.int .i64 n)] w R :=
  Ret.of_fsem Tryd.func124 rfl (Eq.mp (spec_IntText_eq n w R) h)
def spec_l08Table (w : World) (R : Value → World → Prop) : Prop :=
  ∀ (r : Nat) (wv : World), New w (.cells ⟨[(.string (S [65, 85, 68])), (.string (S [48, 51, 54])), (.int .i64 2), (.int .i64 5), (.string (S [66, 72, 68])), (.string (S [48, 52, 56])), (.int .i64 3), (.int .i64 5), (.string (S [67, 65, 68])), (.string (S [49, 50, 52])), (.int .i64 2), (.int .i64 5), (.string (S [67, 72, 70])), (.string (S [55, 53, 54])), (.int .i64 2), (.int .i64 5), (.string (S [67, 76, 70])), (.string (S [57, 57, 48])), (.int .i64 4), (.int .i64 1), (.string (S [67, 90, 75])), (.string (S [50, 48, 51])), (.int .i64 2), (.int .i64 100), (.string (S [68, 75, 75])), (.string (S [50, 48, 56])), (.int .i64 2), (.int .i64 50), (.string (S [69, 85, 82])), (.string (S [57, 55, 56])), (.int .i64 2), (.int .i64 1), (.string (S [71, 66, 80])), (.string (S [56, 50, 54])), (.int .i64 2), (.int .i64 1), (.string (S [72, 85, 70])), (.string (S [51, 52, 56])), (.int .i64 2), (.int .i64 500), (.string (S [73, 83, 75])), (.string (S [51, 53, 50])), (.int .i64 0), (.int .i64 1), (.string (S [74, 80, 89])), (.string (S [51, 57, 50])), (.int .i64 0), (.int .i64 1), (.string (S [75, 82, 87])), (.string (S [52, 49, 48])), (.int .i64 0), (.int .i64 10), (.string (S [75, 87, 68])), (.string (S [52, 49, 52])), (.int .i64 3), (.int .i64 5), (.string (S [78, 79, 75])), (.string (S [53, 55, 56])), (.int .i64 2), (.int .i64 100), (.string (S [78, 90, 68])), (.string (S [53, 53, 52])), (.int .i64 2), (.int .i64 10), (.string (S [80, 76, 78])), (.string (S [57, 56, 53])), (.int .i64 2), (.int .i64 1), (.string (S [83, 69, 75])), (.string (S [55, 53, 50])), (.int .i64 2), (.int .i64 100), (.string (S [84, 78, 68])), (.string (S [55, 56, 56])), (.int .i64 3), (.int .i64 10), (.string (S [85, 83, 68])), (.string (S [56, 52, 48])), (.int .i64 2), (.int .i64 1)]⟩ 148 (0, 0)) r wv →
  R (.slice (some ⟨r, 0, none⟩) 20 20) wv
theorem spec_l08Table_eq (w : World) (R : Value → World → Prop) : spec_l08Table w R = fsem P Tryd.f128 (fun k => []) [] R w := by kernel_rfl
theorem spec_l08Table_ret {w : World} {R : Value → World → Prop} (h : spec_l08Table w R) : Ret P 128 [] w R :=
  Ret.of_fsem Tryd.func128 rfl (Eq.mp (spec_l08Table_eq w R) h)
def spec_l01In (n : Int) (lo : Int) (hi : Int) (w : World) (R : Value → World → Prop) : Prop :=
  ((decide ((lo : Int) ≤ n)) = true →
    R (.bool (decide ((n : Int) ≤ hi))) w) ∧
  ((decide ((lo : Int) ≤ n)) = false →
    R (.bool false) w)
theorem spec_l01In_eq (n : Int) (lo : Int) (hi : Int) (w : World) (R : Value → World → Prop) : spec_l01In n lo hi w R = fsem P Tryd.f129 (fun k => []) [(.int .i64 n), (.int .i64 lo), (.int .i64 hi)] R w := by kernel_rfl
theorem spec_l01In_ret {n : Int} {lo : Int} {hi : Int} {w : World} {R : Value → World → Prop} (h : spec_l01In n lo hi w R) : Ret P 129 [(.int .i64 n), (.int .i64 lo), (.int .i64 hi)] w R :=
  Ret.of_fsem Tryd.func129 rfl (Eq.mp (spec_l01In_eq n lo hi w R) h)
def impl_isScale (scale : Int) (w : World) (R : Value → World → Prop) : Prop :=
  ((decide ((0 : Int) ≤ scale)) = true →
    R (.bool (decide ((scale : Int) ≤ 30))) w) ∧
  ((decide ((0 : Int) ≤ scale)) = false →
    R (.bool false) w)
theorem impl_isScale_eq (scale : Int) (w : World) (R : Value → World → Prop) : impl_isScale scale w R = fsem P Tryd.f135 (fun k => []) [(.int .i64 scale)] R w := by kernel_rfl
theorem impl_isScale_ret {scale : Int} {w : World} {R : Value → World → Prop} (h : impl_isScale scale w R) : Ret P 135 [(.int .i64 scale)] w R :=
  Ret.of_fsem Tryd.func135 rfl (Eq.mp (impl_isScale_eq scale w R) h)
def impl_IntText (n : Int) (w : World) (R : Value → World → Prop) : Prop :=
  Calls P 154 ⟨[(.int .i64 n)]⟩ w fun e wv =>
  ∃ (t4 : ByteArray), e = .returned (.string t4) ∧
  R (.string t4) wv
theorem impl_IntText_eq (n : Int) (w : World) (R : Value → World → Prop) : impl_IntText n w R = fsem P Tryd.f137 (fun k => []) [(.int .i64 n)] R w := by kernel_rfl
theorem impl_IntText_ret {n : Int} {w : World} {R : Value → World → Prop} (h : impl_IntText n w R) : Ret P 137 [(.int .i64 n)] w R :=
  Ret.of_fsem Tryd.func137 rfl (Eq.mp (impl_IntText_eq n w R) h)
def strconv_Itoa (i : Int) (w : World) (R : Value → World → Prop) : Prop :=
  Calls P 163 ⟨[(.int .i64 i)]⟩ w fun e wv =>
  ∃ (t4 : ByteArray), e = .returned (.string t4) ∧
  R (.string t4) wv
end Go.Proofs.YtpaekkcgphljoaaDoor

namespace Go.Proofs.YtpaekkcgphljoaaDoor
open Go Go.Proofs.YtpaekkcgphljoaaDoor.Sx
set_option linter.unusedVariables false
set_option maxRecDepth 100000
def laws_szRow (a0 : ByteArray) (a1 : Bool) (a2_p : Option Addr) (a2_n : Nat) (a2_c : Nat) (a3 : ByteArray) (a4 : Bool) (a5_p : Option Addr) (a5_n : Nat) (a5_c : Nat) (a6 : ByteArray) (a7 : Bool) (a8_p : Option Addr) (a8_n : Nat) (a8_c : Nat) (left : Int) (w : World) (R : Value → World → Prop) : Prop :=
  ∀ (r : Nat) (wv : World), New w (.cells ⟨[(.string a0), (.bool a1), (.slice a2_p a2_n a2_c), (.string a3), (.bool a4), (.slice a5_p a5_n a5_c), (.string a6), (.bool a7), (.slice a8_p a8_n a8_c)]⟩ 58 (0, 0)) r wv →
  ∃ (t60 : ByteArray) (t61 : Bool) (t62_p : Option Addr) (t62_n : Nat) (t62_c : Nat), Loads P 45 ((⟨r, 0, none⟩ : Addr).add 0) (.agg #[(.string t60), (.bool t61), (.slice t62_p t62_n t62_c)]) wv ∧ Calls P 60 ⟨[(.agg #[(.string t60), (.bool t61), (.slice t62_p t62_n t62_c)]), (.int .i64 left)]⟩ wv fun e wv_1 =>
  ∃ (t8 : Int), e = .returned (.int .i64 t8) ∧
  ((decide ((t8 : Int) < 0)) = true →
    R (.int .i64 (-1)) wv_1) ∧
  ((decide ((t8 : Int) < 0)) = false →
    ∃ (t120 : ByteArray) (t121 : Bool) (t122_p : Option Addr) (t122_n : Nat) (t122_c : Nat), Loads P 45 ((⟨r, 0, none⟩ : Addr).add 3) (.agg #[(.string t120), (.bool t121), (.slice t122_p t122_n t122_c)]) wv_1 ∧ Calls P 60 ⟨[(.agg #[(.string t120), (.bool t121), (.slice t122_p t122_n t122_c)]), (.int .i64 t8)]⟩ wv_1 fun e_1 wv_2 =>
    ∃ (t14 : Int), e_1 = .returned (.int .i64 t14) ∧
    ((decide ((t14 : Int) < 0)) = true →
      R (.int .i64 (-1)) wv_2) ∧
    ((decide ((t14 : Int) < 0)) = false →
      ∃ (t180 : ByteArray) (t181 : Bool) (t182_p : Option Addr) (t182_n : Nat) (t182_c : Nat), Loads P 45 ((⟨r, 0, none⟩ : Addr).add 6) (.agg #[(.string t180), (.bool t181), (.slice t182_p t182_n t182_c)]) wv_2 ∧ Calls P 60 ⟨[(.agg #[(.string t180), (.bool t181), (.slice t182_p t182_n t182_c)]), (.int .i64 t14)]⟩ wv_2 fun e_2 wv_3 =>
      ∃ (t20 : Int), e_2 = .returned (.int .i64 t20) ∧
      ((decide ((t20 : Int) < 0)) = true →
        R (.int .i64 (-1)) wv_3) ∧
      ((decide ((t20 : Int) < 0)) = false →
        R (.int .i64 t20) wv_3)))
theorem laws_szRow_eq (a0 : ByteArray) (a1 : Bool) (a2_p : Option Addr) (a2_n : Nat) (a2_c : Nat) (a3 : ByteArray) (a4 : Bool) (a5_p : Option Addr) (a5_n : Nat) (a5_c : Nat) (a6 : ByteArray) (a7 : Bool) (a8_p : Option Addr) (a8_n : Nat) (a8_c : Nat) (left : Int) (w : World) (R : Value → World → Prop) : laws_szRow a0 a1 a2_p a2_n a2_c a3 a4 a5_p a5_n a5_c a6 a7 a8_p a8_n a8_c left w R = fsem P Tryd.f27 (fun k => []) [(.agg #[(.string a0), (.bool a1), (.slice a2_p a2_n a2_c), (.string a3), (.bool a4), (.slice a5_p a5_n a5_c), (.string a6), (.bool a7), (.slice a8_p a8_n a8_c)]), (.int .i64 left)] R w := by kernel_rfl
theorem laws_szRow_ret {a0 : ByteArray} {a1 : Bool} {a2_p : Option Addr} {a2_n : Nat} {a2_c : Nat} {a3 : ByteArray} {a4 : Bool} {a5_p : Option Addr} {a5_n : Nat} {a5_c : Nat} {a6 : ByteArray} {a7 : Bool} {a8_p : Option Addr} {a8_n : Nat} {a8_c : Nat} {left : Int} {w : World} {R : Value → World → Prop} (h : laws_szRow a0 a1 a2_p a2_n a2_c a3 a4 a5_p a5_n a5_c a6 a7 a8_p a8_n a8_c left w R) : Ret P 27 [(.agg #[(.string a0), (.bool a1), (.slice a2_p a2_n a2_c), (.string a3), (.bool a4), (.slice a5_p a5_n a5_c), (.string a6), (.bool a7), (.slice a8_p a8_n a8_c)]), (.int .i64 left)] w R :=
  Ret.of_fsem Tryd.func27 rfl (Eq.mp (laws_szRow_eq a0 a1 a2_p a2_n a2_c a3 a4 a5_p a5_n a5_c a6 a7 a8_p a8_n a8_c left w R) h)
def laws_toRow (a0 : ByteArray) (a1 : Bool) (a2_p : Option Addr) (a2_n : Nat) (a2_c : Nat) (a3 : ByteArray) (a4 : Bool) (a5_p : Option Addr) (a5_n : Nat) (a5_c : Nat) (a6 : ByteArray) (a7 : Bool) (a8_p : Option Addr) (a8_n : Nat) (a8_c : Nat) (w : World) (R : Value → World → Prop) : Prop :=
  ∀ (r : Nat) (wv : World), New w (.cells ⟨[(.string a0), (.bool a1), (.slice a2_p a2_n a2_c), (.string a3), (.bool a4), (.slice a5_p a5_n a5_c), (.string a6), (.bool a7), (.slice a8_p a8_n a8_c)]⟩ 58 (0, 0)) r wv →
  ∀ (r_1 : Nat) (wv_1 : World), New wv (.cells ⟨[(.string ByteArray.empty), (.bool false), (.slice none 0 0), (.string ByteArray.empty), (.bool false), (.slice none 0 0), (.string ByteArray.empty), (.bool false), (.slice none 0 0)]⟩ 62 (0, 0)) r_1 wv_1 →
  ∀ (r_2 : Nat) (wv_2 : World), New wv_1 (.cells ⟨[(.string ByteArray.empty), (.bool false), (.slice none 0 0), (.string ByteArray.empty), (.bool false), (.slice none 0 0), (.string ByteArray.empty), (.bool false), (.slice none 0 0)]⟩ 62 (0, 0)) r_2 wv_2 →
  ∃ (t50 : ByteArray) (t51 : Bool) (t52_p : Option Addr) (t52_n : Nat) (t52_c : Nat), Loads P 45 ((⟨r, 0, none⟩ : Addr).add 0) (.agg #[(.string t50), (.bool t51), (.slice t52_p t52_n t52_c)]) wv_2 ∧ Calls P 61 ⟨[(.agg #[(.string t50), (.bool t51), (.slice t52_p t52_n t52_c)])]⟩ wv_2 fun e wv_3 =>
  ∃ (t60 : ByteArray) (t61 : Bool) (t62_p : Option Addr) (t62_n : Nat) (t62_c : Nat), e = .returned (.agg #[(.string t60), (.bool t61), (.slice t62_p t62_n t62_c)]) ∧
  ∃ wv_4, Stores P 51 ((⟨r_2, 0, none⟩ : Addr).add 0) (.agg #[(.string t60), (.bool t61), (.slice t62_p t62_n t62_c)]) wv_3 wv_4 ∧
  ∃ (t90 : ByteArray) (t91 : Bool) (t92_p : Option Addr) (t92_n : Nat) (t92_c : Nat), Loads P 45 ((⟨r, 0, none⟩ : Addr).add 3) (.agg #[(.string t90), (.bool t91), (.slice t92_p t92_n t92_c)]) wv_4 ∧ Calls P 61 ⟨[(.agg #[(.string t90), (.bool t91), (.slice t92_p t92_n t92_c)])]⟩ wv_4 fun e_1 wv_5 =>
  ∃ (t100 : ByteArray) (t101 : Bool) (t102_p : Option Addr) (t102_n : Nat) (t102_c : Nat), e_1 = .returned (.agg #[(.string t100), (.bool t101), (.slice t102_p t102_n t102_c)]) ∧
  ∃ wv_6, Stores P 51 ((⟨r_2, 0, none⟩ : Addr).add 3) (.agg #[(.string t100), (.bool t101), (.slice t102_p t102_n t102_c)]) wv_5 wv_6 ∧
  ∃ (t130 : ByteArray) (t131 : Bool) (t132_p : Option Addr) (t132_n : Nat) (t132_c : Nat), Loads P 45 ((⟨r, 0, none⟩ : Addr).add 6) (.agg #[(.string t130), (.bool t131), (.slice t132_p t132_n t132_c)]) wv_6 ∧ Calls P 61 ⟨[(.agg #[(.string t130), (.bool t131), (.slice t132_p t132_n t132_c)])]⟩ wv_6 fun e_2 wv_7 =>
  ∃ (t140 : ByteArray) (t141 : Bool) (t142_p : Option Addr) (t142_n : Nat) (t142_c : Nat), e_2 = .returned (.agg #[(.string t140), (.bool t141), (.slice t142_p t142_n t142_c)]) ∧
  ∃ wv_8, Stores P 51 ((⟨r_2, 0, none⟩ : Addr).add 6) (.agg #[(.string t140), (.bool t141), (.slice t142_p t142_n t142_c)]) wv_7 wv_8 ∧
  ∃ (t160 : ByteArray) (t161 : Bool) (t162_p : Option Addr) (t162_n : Nat) (t162_c : Nat) (t163 : ByteArray) (t164 : Bool) (t165_p : Option Addr) (t165_n : Nat) (t165_c : Nat) (t166 : ByteArray) (t167 : Bool) (t168_p : Option Addr) (t168_n : Nat) (t168_c : Nat), Loads P 62 ⟨r_2, 0, none⟩ (.agg #[(.string t160), (.bool t161), (.slice t162_p t162_n t162_c), (.string t163), (.bool t164), (.slice t165_p t165_n t165_c), (.string t166), (.bool t167), (.slice t168_p t168_n t168_c)]) wv_8 ∧ ∃ wv_9, Stores P 62 ⟨r_1, 0, none⟩ (.agg #[(.string t160), (.bool t161), (.slice t162_p t162_n t162_c), (.string t163), (.bool t164), (.slice t165_p t165_n t165_c), (.string t166), (.bool t167), (.slice t168_p t168_n t168_c)]) wv_8 wv_9 ∧
  ∃ (r0 : ByteArray) (r1 : Bool) (r2_p : Option Addr) (r2_n : Nat) (r2_c : Nat) (r3 : ByteArray) (r4 : Bool) (r5_p : Option Addr) (r5_n : Nat) (r5_c : Nat) (r6 : ByteArray) (r7 : Bool) (r8_p : Option Addr) (r8_n : Nat) (r8_c : Nat), Loads P 62 ⟨r_1, 0, none⟩ (.agg #[(.string r0), (.bool r1), (.slice r2_p r2_n r2_c), (.string r3), (.bool r4), (.slice r5_p r5_n r5_c), (.string r6), (.bool r7), (.slice r8_p r8_n r8_c)]) wv_9 ∧ R (.agg #[(.string r0), (.bool r1), (.slice r2_p r2_n r2_c), (.string r3), (.bool r4), (.slice r5_p r5_n r5_c), (.string r6), (.bool r7), (.slice r8_p r8_n r8_c)]) wv_9
theorem laws_toRow_eq (a0 : ByteArray) (a1 : Bool) (a2_p : Option Addr) (a2_n : Nat) (a2_c : Nat) (a3 : ByteArray) (a4 : Bool) (a5_p : Option Addr) (a5_n : Nat) (a5_c : Nat) (a6 : ByteArray) (a7 : Bool) (a8_p : Option Addr) (a8_n : Nat) (a8_c : Nat) (w : World) (R : Value → World → Prop) : laws_toRow a0 a1 a2_p a2_n a2_c a3 a4 a5_p a5_n a5_c a6 a7 a8_p a8_n a8_c w R = fsem P Tryd.f29 (fun k => []) [(.agg #[(.string a0), (.bool a1), (.slice a2_p a2_n a2_c), (.string a3), (.bool a4), (.slice a5_p a5_n a5_c), (.string a6), (.bool a7), (.slice a8_p a8_n a8_c)])] R w := by kernel_rfl
theorem laws_toRow_ret {a0 : ByteArray} {a1 : Bool} {a2_p : Option Addr} {a2_n : Nat} {a2_c : Nat} {a3 : ByteArray} {a4 : Bool} {a5_p : Option Addr} {a5_n : Nat} {a5_c : Nat} {a6 : ByteArray} {a7 : Bool} {a8_p : Option Addr} {a8_n : Nat} {a8_c : Nat} {w : World} {R : Value → World → Prop} (h : laws_toRow a0 a1 a2_p a2_n a2_c a3 a4 a5_p a5_n a5_c a6 a7 a8_p a8_n a8_c w R) : Ret P 29 [(.agg #[(.string a0), (.bool a1), (.slice a2_p a2_n a2_c), (.string a3), (.bool a4), (.slice a5_p a5_n a5_c), (.string a6), (.bool a7), (.slice a8_p a8_n a8_c)])] w R :=
  Ret.of_fsem Tryd.func29 rfl (Eq.mp (laws_toRow_eq a0 a1 a2_p a2_n a2_c a3 a4 a5_p a5_n a5_c a6 a7 a8_p a8_n a8_c w R) h)
def laws_eqRow (a0 : ByteArray) (a1 : Bool) (a2_p : Option Addr) (a2_n : Nat) (a2_c : Nat) (a3 : ByteArray) (a4 : Bool) (a5_p : Option Addr) (a5_n : Nat) (a5_c : Nat) (a6 : ByteArray) (a7 : Bool) (a8_p : Option Addr) (a8_n : Nat) (a8_c : Nat) (b0 : ByteArray) (b1 : Bool) (b2_p : Option Addr) (b2_n : Nat) (b2_c : Nat) (b3 : ByteArray) (b4 : Bool) (b5_p : Option Addr) (b5_n : Nat) (b5_c : Nat) (b6 : ByteArray) (b7 : Bool) (b8_p : Option Addr) (b8_n : Nat) (b8_c : Nat) (w : World) (R : Value → World → Prop) : Prop :=
  ∀ (r : Nat) (wv : World), New w (.cells ⟨[(.string a0), (.bool a1), (.slice a2_p a2_n a2_c), (.string a3), (.bool a4), (.slice a5_p a5_n a5_c), (.string a6), (.bool a7), (.slice a8_p a8_n a8_c)]⟩ 62 (0, 0)) r wv →
  ∀ (r_1 : Nat) (wv_1 : World), New wv (.cells ⟨[(.string b0), (.bool b1), (.slice b2_p b2_n b2_c), (.string b3), (.bool b4), (.slice b5_p b5_n b5_c), (.string b6), (.bool b7), (.slice b8_p b8_n b8_c)]⟩ 62 (0, 0)) r_1 wv_1 →
  ∃ (t60 : ByteArray) (t61 : Bool) (t62_p : Option Addr) (t62_n : Nat) (t62_c : Nat), Loads P 51 ((⟨r, 0, none⟩ : Addr).add 0) (.agg #[(.string t60), (.bool t61), (.slice t62_p t62_n t62_c)]) wv_1 ∧ ∃ (t80 : ByteArray) (t81 : Bool) (t82_p : Option Addr) (t82_n : Nat) (t82_c : Nat), Loads P 51 ((⟨r_1, 0, none⟩ : Addr).add 0) (.agg #[(.string t80), (.bool t81), (.slice t82_p t82_n t82_c)]) wv_1 ∧ Calls P 62 ⟨[(.agg #[(.string t60), (.bool t61), (.slice t62_p t62_n t62_c)]), (.agg #[(.string t80), (.bool t81), (.slice t82_p t82_n t82_c)])]⟩ wv_1 fun e wv_2 =>
  ∃ (t9 : Bool), e = .returned (.bool t9) ∧
  ((!t9) = true →
    R (.bool false) wv_2) ∧
  ((!t9) = false →
    ∃ (t120 : ByteArray) (t121 : Bool) (t122_p : Option Addr) (t122_n : Nat) (t122_c : Nat), Loads P 51 ((⟨r, 0, none⟩ : Addr).add 3) (.agg #[(.string t120), (.bool t121), (.slice t122_p t122_n t122_c)]) wv_2 ∧ ∃ (t140 : ByteArray) (t141 : Bool) (t142_p : Option Addr) (t142_n : Nat) (t142_c : Nat), Loads P 51 ((⟨r_1, 0, none⟩ : Addr).add 3) (.agg #[(.string t140), (.bool t141), (.slice t142_p t142_n t142_c)]) wv_2 ∧ Calls P 62 ⟨[(.agg #[(.string t120), (.bool t121), (.slice t122_p t122_n t122_c)]), (.agg #[(.string t140), (.bool t141), (.slice t142_p t142_n t142_c)])]⟩ wv_2 fun e_1 wv_3 =>
    ∃ (t15 : Bool), e_1 = .returned (.bool t15) ∧
    ((!t15) = true →
      R (.bool false) wv_3) ∧
    ((!t15) = false →
      ∃ (t180 : ByteArray) (t181 : Bool) (t182_p : Option Addr) (t182_n : Nat) (t182_c : Nat), Loads P 51 ((⟨r, 0, none⟩ : Addr).add 6) (.agg #[(.string t180), (.bool t181), (.slice t182_p t182_n t182_c)]) wv_3 ∧ ∃ (t200 : ByteArray) (t201 : Bool) (t202_p : Option Addr) (t202_n : Nat) (t202_c : Nat), Loads P 51 ((⟨r_1, 0, none⟩ : Addr).add 6) (.agg #[(.string t200), (.bool t201), (.slice t202_p t202_n t202_c)]) wv_3 ∧ Calls P 62 ⟨[(.agg #[(.string t180), (.bool t181), (.slice t182_p t182_n t182_c)]), (.agg #[(.string t200), (.bool t201), (.slice t202_p t202_n t202_c)])]⟩ wv_3 fun e_2 wv_4 =>
      ∃ (t21 : Bool), e_2 = .returned (.bool t21) ∧
      ((!t21) = true →
        R (.bool false) wv_4) ∧
      ((!t21) = false →
        R (.bool true) wv_4)))
theorem laws_eqRow_eq (a0 : ByteArray) (a1 : Bool) (a2_p : Option Addr) (a2_n : Nat) (a2_c : Nat) (a3 : ByteArray) (a4 : Bool) (a5_p : Option Addr) (a5_n : Nat) (a5_c : Nat) (a6 : ByteArray) (a7 : Bool) (a8_p : Option Addr) (a8_n : Nat) (a8_c : Nat) (b0 : ByteArray) (b1 : Bool) (b2_p : Option Addr) (b2_n : Nat) (b2_c : Nat) (b3 : ByteArray) (b4 : Bool) (b5_p : Option Addr) (b5_n : Nat) (b5_c : Nat) (b6 : ByteArray) (b7 : Bool) (b8_p : Option Addr) (b8_n : Nat) (b8_c : Nat) (w : World) (R : Value → World → Prop) : laws_eqRow a0 a1 a2_p a2_n a2_c a3 a4 a5_p a5_n a5_c a6 a7 a8_p a8_n a8_c b0 b1 b2_p b2_n b2_c b3 b4 b5_p b5_n b5_c b6 b7 b8_p b8_n b8_c w R = fsem P Tryd.f31 (fun k => []) [(.agg #[(.string a0), (.bool a1), (.slice a2_p a2_n a2_c), (.string a3), (.bool a4), (.slice a5_p a5_n a5_c), (.string a6), (.bool a7), (.slice a8_p a8_n a8_c)]), (.agg #[(.string b0), (.bool b1), (.slice b2_p b2_n b2_c), (.string b3), (.bool b4), (.slice b5_p b5_n b5_c), (.string b6), (.bool b7), (.slice b8_p b8_n b8_c)])] R w := by kernel_rfl
theorem laws_eqRow_ret {a0 : ByteArray} {a1 : Bool} {a2_p : Option Addr} {a2_n : Nat} {a2_c : Nat} {a3 : ByteArray} {a4 : Bool} {a5_p : Option Addr} {a5_n : Nat} {a5_c : Nat} {a6 : ByteArray} {a7 : Bool} {a8_p : Option Addr} {a8_n : Nat} {a8_c : Nat} {b0 : ByteArray} {b1 : Bool} {b2_p : Option Addr} {b2_n : Nat} {b2_c : Nat} {b3 : ByteArray} {b4 : Bool} {b5_p : Option Addr} {b5_n : Nat} {b5_c : Nat} {b6 : ByteArray} {b7 : Bool} {b8_p : Option Addr} {b8_n : Nat} {b8_c : Nat} {w : World} {R : Value → World → Prop} (h : laws_eqRow a0 a1 a2_p a2_n a2_c a3 a4 a5_p a5_n a5_c a6 a7 a8_p a8_n a8_c b0 b1 b2_p b2_n b2_c b3 b4 b5_p b5_n b5_c b6 b7 b8_p b8_n b8_c w R) : Ret P 31 [(.agg #[(.string a0), (.bool a1), (.slice a2_p a2_n a2_c), (.string a3), (.bool a4), (.slice a5_p a5_n a5_c), (.string a6), (.bool a7), (.slice a8_p a8_n a8_c)]), (.agg #[(.string b0), (.bool b1), (.slice b2_p b2_n b2_c), (.string b3), (.bool b4), (.slice b5_p b5_n b5_c), (.string b6), (.bool b7), (.slice b8_p b8_n b8_c)])] w R :=
  Ret.of_fsem Tryd.func31 rfl (Eq.mp (laws_eqRow_eq a0 a1 a2_p a2_n a2_c a3 a4 a5_p a5_n a5_c a6 a7 a8_p a8_n a8_c b0 b1 b2_p b2_n b2_c b3 b4 b5_p b5_n b5_c b6 b7 b8_p b8_n b8_c w R) h)
def laws_szSigned (a0 : Bool) (a1_p : Option Addr) (a1_n : Nat) (a1_c : Nat) (left : Int) (w : World) (R : Value → World → Prop) : Prop :=
  ∀ (r : Nat) (wv : World), New w (.cells ⟨[(.bool a0), (.slice a1_p a1_n a1_c)]⟩ 33 (0, 0)) r wv →
  ∃ (t6_p : Option Addr) (t6_n : Nat) (t6_c : Nat), Loads P 31 ((⟨r, 0, none⟩ : Addr).add 1) (.slice t6_p t6_n t6_c) wv ∧ Calls P 86 ⟨[(.slice t6_p t6_n t6_c), (.int .i64 left)]⟩ wv fun e wv_1 =>
  ∃ (t8 : Int), e = .returned (.int .i64 t8) ∧
  ((decide ((t8 : Int) < 0)) = true →
    R (.int .i64 (-1)) wv_1) ∧
  ((decide ((t8 : Int) < 0)) = false →
    R (.int .i64 t8) wv_1)
theorem laws_szSigned_eq (a0 : Bool) (a1_p : Option Addr) (a1_n : Nat) (a1_c : Nat) (left : Int) (w : World) (R : Value → World → Prop) : laws_szSigned a0 a1_p a1_n a1_c left w R = fsem P Tryd.f55 (fun k => []) [(.agg #[(.bool a0), (.slice a1_p a1_n a1_c)]), (.int .i64 left)] R w := by kernel_rfl
theorem laws_szSigned_ret {a0 : Bool} {a1_p : Option Addr} {a1_n : Nat} {a1_c : Nat} {left : Int} {w : World} {R : Value → World → Prop} (h : laws_szSigned a0 a1_p a1_n a1_c left w R) : Ret P 55 [(.agg #[(.bool a0), (.slice a1_p a1_n a1_c)]), (.int .i64 left)] w R :=
  Ret.of_fsem Tryd.func55 rfl (Eq.mp (laws_szSigned_eq a0 a1_p a1_n a1_c left w R) h)
def laws_toSigned (a0 : Bool) (a1_p : Option Addr) (a1_n : Nat) (a1_c : Nat) (w : World) (R : Value → World → Prop) : Prop :=
  ∀ (r : Nat) (wv : World), New w (.cells ⟨[(.bool a0), (.slice a1_p a1_n a1_c)]⟩ 33 (0, 0)) r wv →
  ∀ (r_1 : Nat) (wv_1 : World), New wv (.cells ⟨[(.bool false), (.slice none 0 0)]⟩ 38 (0, 0)) r_1 wv_1 →
  ∀ (r_2 : Nat) (wv_2 : World), New wv_1 (.cells ⟨[(.bool false), (.slice none 0 0)]⟩ 38 (0, 0)) r_2 wv_2 →
  ∃ (t5 : Bool), Loads P 4 ((⟨r, 0, none⟩ : Addr).add 0) (.bool t5) wv_2 ∧ ∃ wv_3, Stores P 4 ((⟨r_2, 0, none⟩ : Addr).add 0) (.bool t5) wv_2 wv_3 ∧
  ∃ (t8_p : Option Addr) (t8_n : Nat) (t8_c : Nat), Loads P 31 ((⟨r, 0, none⟩ : Addr).add 1) (.slice t8_p t8_n t8_c) wv_3 ∧ Calls P 90 ⟨[(.slice t8_p t8_n t8_c)]⟩ wv_3 fun e wv_4 =>
  ∃ (t9_p : Option Addr) (t9_n : Nat) (t9_c : Nat), e = .returned (.slice t9_p t9_n t9_c) ∧
  ∃ wv_5, Stores P 31 ((⟨r_2, 0, none⟩ : Addr).add 1) (.slice t9_p t9_n t9_c) wv_4 wv_5 ∧
  ∃ (t110 : Bool) (t111_p : Option Addr) (t111_n : Nat) (t111_c : Nat), Loads P 38 ⟨r_2, 0, none⟩ (.agg #[(.bool t110), (.slice t111_p t111_n t111_c)]) wv_5 ∧ ∃ wv_6, Stores P 38 ⟨r_1, 0, none⟩ (.agg #[(.bool t110), (.slice t111_p t111_n t111_c)]) wv_5 wv_6 ∧
  ∃ (r0 : Bool) (r1_p : Option Addr) (r1_n : Nat) (r1_c : Nat), Loads P 38 ⟨r_1, 0, none⟩ (.agg #[(.bool r0), (.slice r1_p r1_n r1_c)]) wv_6 ∧ R (.agg #[(.bool r0), (.slice r1_p r1_n r1_c)]) wv_6
theorem laws_toSigned_eq (a0 : Bool) (a1_p : Option Addr) (a1_n : Nat) (a1_c : Nat) (w : World) (R : Value → World → Prop) : laws_toSigned a0 a1_p a1_n a1_c w R = fsem P Tryd.f57 (fun k => []) [(.agg #[(.bool a0), (.slice a1_p a1_n a1_c)])] R w := by kernel_rfl
theorem laws_toSigned_ret {a0 : Bool} {a1_p : Option Addr} {a1_n : Nat} {a1_c : Nat} {w : World} {R : Value → World → Prop} (h : laws_toSigned a0 a1_p a1_n a1_c w R) : Ret P 57 [(.agg #[(.bool a0), (.slice a1_p a1_n a1_c)])] w R :=
  Ret.of_fsem Tryd.func57 rfl (Eq.mp (laws_toSigned_eq a0 a1_p a1_n a1_c w R) h)
def laws_eqSigned (a0 : Bool) (a1_p : Option Addr) (a1_n : Nat) (a1_c : Nat) (b0 : Bool) (b1_p : Option Addr) (b1_n : Nat) (b1_c : Nat) (w : World) (R : Value → World → Prop) : Prop :=
  ∀ (r : Nat) (wv : World), New w (.cells ⟨[(.bool a0), (.slice a1_p a1_n a1_c)]⟩ 38 (0, 0)) r wv →
  ∀ (r_1 : Nat) (wv_1 : World), New wv (.cells ⟨[(.bool b0), (.slice b1_p b1_n b1_c)]⟩ 38 (0, 0)) r_1 wv_1 →
  ∃ (t6 : Bool), Loads P 4 ((⟨r, 0, none⟩ : Addr).add 0) (.bool t6) wv_1 ∧ ∃ (t8 : Bool), Loads P 4 ((⟨r_1, 0, none⟩ : Addr).add 0) (.bool t8) wv_1 ∧ ((!(t6 == t8)) = true →
    R (.bool false) wv_1) ∧
  ((!(t6 == t8)) = false →
    ∃ (t11_p : Option Addr) (t11_n : Nat) (t11_c : Nat), Loads P 31 ((⟨r, 0, none⟩ : Addr).add 1) (.slice t11_p t11_n t11_c) wv_1 ∧ ∃ (t13_p : Option Addr) (t13_n : Nat) (t13_c : Nat), Loads P 31 ((⟨r_1, 0, none⟩ : Addr).add 1) (.slice t13_p t13_n t13_c) wv_1 ∧ Calls P 94 ⟨[(.slice t11_p t11_n t11_c), (.slice t13_p t13_n t13_c)]⟩ wv_1 fun e wv_2 =>
    ∃ (t14 : Bool), e = .returned (.bool t14) ∧
    ((!t14) = true →
      R (.bool false) wv_2) ∧
    ((!t14) = false →
      R (.bool true) wv_2))
theorem laws_eqSigned_eq (a0 : Bool) (a1_p : Option Addr) (a1_n : Nat) (a1_c : Nat) (b0 : Bool) (b1_p : Option Addr) (b1_n : Nat) (b1_c : Nat) (w : World) (R : Value → World → Prop) : laws_eqSigned a0 a1_p a1_n a1_c b0 b1_p b1_n b1_c w R = fsem P Tryd.f59 (fun k => []) [(.agg #[(.bool a0), (.slice a1_p a1_n a1_c)]), (.agg #[(.bool b0), (.slice b1_p b1_n b1_c)])] R w := by kernel_rfl
theorem laws_eqSigned_ret {a0 : Bool} {a1_p : Option Addr} {a1_n : Nat} {a1_c : Nat} {b0 : Bool} {b1_p : Option Addr} {b1_n : Nat} {b1_c : Nat} {w : World} {R : Value → World → Prop} (h : laws_eqSigned a0 a1_p a1_n a1_c b0 b1_p b1_n b1_c w R) : Ret P 59 [(.agg #[(.bool a0), (.slice a1_p a1_n a1_c)]), (.agg #[(.bool b0), (.slice b1_p b1_n b1_c)])] w R :=
  Ret.of_fsem Tryd.func59 rfl (Eq.mp (laws_eqSigned_eq a0 a1_p a1_n a1_c b0 b1_p b1_n b1_c w R) h)
def laws_szMoney (a0 : ByteArray) (a1 : Bool) (a2_p : Option Addr) (a2_n : Nat) (a2_c : Nat) (left : Int) (w : World) (R : Value → World → Prop) : Prop :=
  ∀ (r : Nat) (wv : World), New w (.cells ⟨[(.string a0), (.bool a1), (.slice a2_p a2_n a2_c)]⟩ 45 (0, 0)) r wv →
  ∃ (t7 : ByteArray), Loads P 9 ((⟨r, 0, none⟩ : Addr).add 0) (.string t7) wv ∧ ∃ t9 : Int, t9 = IntKind.wrap .i64 (left - ((t7.size : Nat) : Int)) ∧ ((decide ((t9 : Int) < 0)) = true →
    R (.int .i64 (-1)) wv) ∧
  ((decide ((t9 : Int) < 0)) = false →
    ∃ (t130 : Bool) (t131_p : Option Addr) (t131_n : Nat) (t131_c : Nat), Loads P 33 ((⟨r, 0, none⟩ : Addr).add 1) (.agg #[(.bool t130), (.slice t131_p t131_n t131_c)]) wv ∧ Calls P 55 ⟨[(.agg #[(.bool t130), (.slice t131_p t131_n t131_c)]), (.int .i64 t9)]⟩ wv fun e wv_1 =>
    ∃ (t15 : Int), e = .returned (.int .i64 t15) ∧
    ((decide ((t15 : Int) < 0)) = true →
      R (.int .i64 (-1)) wv_1) ∧
    ((decide ((t15 : Int) < 0)) = false →
      R (.int .i64 t15) wv_1))
theorem laws_szMoney_eq (a0 : ByteArray) (a1 : Bool) (a2_p : Option Addr) (a2_n : Nat) (a2_c : Nat) (left : Int) (w : World) (R : Value → World → Prop) : laws_szMoney a0 a1 a2_p a2_n a2_c left w R = fsem P Tryd.f60 (fun k => []) [(.agg #[(.string a0), (.bool a1), (.slice a2_p a2_n a2_c)]), (.int .i64 left)] R w := by kernel_rfl
theorem laws_szMoney_ret {a0 : ByteArray} {a1 : Bool} {a2_p : Option Addr} {a2_n : Nat} {a2_c : Nat} {left : Int} {w : World} {R : Value → World → Prop} (h : laws_szMoney a0 a1 a2_p a2_n a2_c left w R) : Ret P 60 [(.agg #[(.string a0), (.bool a1), (.slice a2_p a2_n a2_c)]), (.int .i64 left)] w R :=
  Ret.of_fsem Tryd.func60 rfl (Eq.mp (laws_szMoney_eq a0 a1 a2_p a2_n a2_c left w R) h)
def laws_toMoney (a0 : ByteArray) (a1 : Bool) (a2_p : Option Addr) (a2_n : Nat) (a2_c : Nat) (w : World) (R : Value → World → Prop) : Prop :=
  ∀ (r : Nat) (wv : World), New w (.cells ⟨[(.string a0), (.bool a1), (.slice a2_p a2_n a2_c)]⟩ 45 (0, 0)) r wv →
  ∀ (r_1 : Nat) (wv_1 : World), New wv (.cells ⟨[(.string ByteArray.empty), (.bool false), (.slice none 0 0)]⟩ 51 (0, 0)) r_1 wv_1 →
  ∀ (r_2 : Nat) (wv_2 : World), New wv_1 (.cells ⟨[(.string ByteArray.empty), (.bool false), (.slice none 0 0)]⟩ 51 (0, 0)) r_2 wv_2 →
  ∃ (t5 : ByteArray), Loads P 9 ((⟨r, 0, none⟩ : Addr).add 0) (.string t5) wv_2 ∧ ∃ wv_3, Stores P 9 ((⟨r_2, 0, none⟩ : Addr).add 0) (.string t5) wv_2 wv_3 ∧
  ∃ (t80 : Bool) (t81_p : Option Addr) (t81_n : Nat) (t81_c : Nat), Loads P 33 ((⟨r, 0, none⟩ : Addr).add 1) (.agg #[(.bool t80), (.slice t81_p t81_n t81_c)]) wv_3 ∧ Calls P 57 ⟨[(.agg #[(.bool t80), (.slice t81_p t81_n t81_c)])]⟩ wv_3 fun e wv_4 =>
  ∃ (t90 : Bool) (t91_p : Option Addr) (t91_n : Nat) (t91_c : Nat), e = .returned (.agg #[(.bool t90), (.slice t91_p t91_n t91_c)]) ∧
  ∃ wv_5, Stores P 38 ((⟨r_2, 0, none⟩ : Addr).add 1) (.agg #[(.bool t90), (.slice t91_p t91_n t91_c)]) wv_4 wv_5 ∧
  ∃ (t110 : ByteArray) (t111 : Bool) (t112_p : Option Addr) (t112_n : Nat) (t112_c : Nat), Loads P 51 ⟨r_2, 0, none⟩ (.agg #[(.string t110), (.bool t111), (.slice t112_p t112_n t112_c)]) wv_5 ∧ ∃ wv_6, Stores P 51 ⟨r_1, 0, none⟩ (.agg #[(.string t110), (.bool t111), (.slice t112_p t112_n t112_c)]) wv_5 wv_6 ∧
  ∃ (r0 : ByteArray) (r1 : Bool) (r2_p : Option Addr) (r2_n : Nat) (r2_c : Nat), Loads P 51 ⟨r_1, 0, none⟩ (.agg #[(.string r0), (.bool r1), (.slice r2_p r2_n r2_c)]) wv_6 ∧ R (.agg #[(.string r0), (.bool r1), (.slice r2_p r2_n r2_c)]) wv_6
theorem laws_toMoney_eq (a0 : ByteArray) (a1 : Bool) (a2_p : Option Addr) (a2_n : Nat) (a2_c : Nat) (w : World) (R : Value → World → Prop) : laws_toMoney a0 a1 a2_p a2_n a2_c w R = fsem P Tryd.f61 (fun k => []) [(.agg #[(.string a0), (.bool a1), (.slice a2_p a2_n a2_c)])] R w := by kernel_rfl
theorem laws_toMoney_ret {a0 : ByteArray} {a1 : Bool} {a2_p : Option Addr} {a2_n : Nat} {a2_c : Nat} {w : World} {R : Value → World → Prop} (h : laws_toMoney a0 a1 a2_p a2_n a2_c w R) : Ret P 61 [(.agg #[(.string a0), (.bool a1), (.slice a2_p a2_n a2_c)])] w R :=
  Ret.of_fsem Tryd.func61 rfl (Eq.mp (laws_toMoney_eq a0 a1 a2_p a2_n a2_c w R) h)
def laws_eqMoney (a0 : ByteArray) (a1 : Bool) (a2_p : Option Addr) (a2_n : Nat) (a2_c : Nat) (b0 : ByteArray) (b1 : Bool) (b2_p : Option Addr) (b2_n : Nat) (b2_c : Nat) (w : World) (R : Value → World → Prop) : Prop :=
  ∀ (r : Nat) (wv : World), New w (.cells ⟨[(.string a0), (.bool a1), (.slice a2_p a2_n a2_c)]⟩ 51 (0, 0)) r wv →
  ∀ (r_1 : Nat) (wv_1 : World), New wv (.cells ⟨[(.string b0), (.bool b1), (.slice b2_p b2_n b2_c)]⟩ 51 (0, 0)) r_1 wv_1 →
  ∃ (t6 : ByteArray), Loads P 9 ((⟨r, 0, none⟩ : Addr).add 0) (.string t6) wv_1 ∧ ∃ (t8 : ByteArray), Loads P 9 ((⟨r_1, 0, none⟩ : Addr).add 0) (.string t8) wv_1 ∧ ((decide (t6 ≠ t8)) = true →
    R (.bool false) wv_1) ∧
  ((decide (t6 ≠ t8)) = false →
    ∃ (t110 : Bool) (t111_p : Option Addr) (t111_n : Nat) (t111_c : Nat), Loads P 38 ((⟨r, 0, none⟩ : Addr).add 1) (.agg #[(.bool t110), (.slice t111_p t111_n t111_c)]) wv_1 ∧ ∃ (t130 : Bool) (t131_p : Option Addr) (t131_n : Nat) (t131_c : Nat), Loads P 38 ((⟨r_1, 0, none⟩ : Addr).add 1) (.agg #[(.bool t130), (.slice t131_p t131_n t131_c)]) wv_1 ∧ Calls P 59 ⟨[(.agg #[(.bool t110), (.slice t111_p t111_n t111_c)]), (.agg #[(.bool t130), (.slice t131_p t131_n t131_c)])]⟩ wv_1 fun e wv_2 =>
    ∃ (t14 : Bool), e = .returned (.bool t14) ∧
    ((!t14) = true →
      R (.bool false) wv_2) ∧
    ((!t14) = false →
      R (.bool true) wv_2))
theorem laws_eqMoney_eq (a0 : ByteArray) (a1 : Bool) (a2_p : Option Addr) (a2_n : Nat) (a2_c : Nat) (b0 : ByteArray) (b1 : Bool) (b2_p : Option Addr) (b2_n : Nat) (b2_c : Nat) (w : World) (R : Value → World → Prop) : laws_eqMoney a0 a1 a2_p a2_n a2_c b0 b1 b2_p b2_n b2_c w R = fsem P Tryd.f62 (fun k => []) [(.agg #[(.string a0), (.bool a1), (.slice a2_p a2_n a2_c)]), (.agg #[(.string b0), (.bool b1), (.slice b2_p b2_n b2_c)])] R w := by kernel_rfl
theorem laws_eqMoney_ret {a0 : ByteArray} {a1 : Bool} {a2_p : Option Addr} {a2_n : Nat} {a2_c : Nat} {b0 : ByteArray} {b1 : Bool} {b2_p : Option Addr} {b2_n : Nat} {b2_c : Nat} {w : World} {R : Value → World → Prop} (h : laws_eqMoney a0 a1 a2_p a2_n a2_c b0 b1 b2_p b2_n b2_c w R) : Ret P 62 [(.agg #[(.string a0), (.bool a1), (.slice a2_p a2_n a2_c)]), (.agg #[(.string b0), (.bool b1), (.slice b2_p b2_n b2_c)])] w R :=
  Ret.of_fsem Tryd.func62 rfl (Eq.mp (laws_eqMoney_eq a0 a1 a2_p a2_n a2_c b0 b1 b2_p b2_n b2_c w R) h)
def laws_szIntS (a_p : Option Addr) (a_n : Nat) (a_c : Nat) (left : Int) (w : World) (R : Value → World → Prop) : Prop :=
  ∃ t8 : Int, t8 = IntKind.wrap .i64 (left - ((a_n : Nat) : Int)) ∧ ((decide ((t8 : Int) < 0)) = true →
    R (.int .i64 (-1)) w) ∧
  ((decide ((t8 : Int) < 0)) = false →
    R (.int .i64 t8) w)
theorem laws_szIntS_eq (a_p : Option Addr) (a_n : Nat) (a_c : Nat) (left : Int) (w : World) (R : Value → World → Prop) : laws_szIntS a_p a_n a_c left w R = fsem P Tryd.f86 (fun k => []) [(.slice a_p a_n a_c), (.int .i64 left)] R w := by kernel_rfl
theorem laws_szIntS_ret {a_p : Option Addr} {a_n : Nat} {a_c : Nat} {left : Int} {w : World} {R : Value → World → Prop} (h : laws_szIntS a_p a_n a_c left w R) : Ret P 86 [(.slice a_p a_n a_c), (.int .i64 left)] w R :=
  Ret.of_fsem Tryd.func86 rfl (Eq.mp (laws_szIntS_eq a_p a_n a_c left w R) h)
def laws_toIntS (a_p : Option Addr) (a_n : Nat) (a_c : Nat) (w : World) (R : Value → World → Prop) : Prop :=
  (0 ≤ (((a_n : Nat) : Int) : Int) ∧ (((a_n : Nat) : Int) : Int) ≤ ((a_n : Nat) : Int) ∧ ((8 : Nat) : Int) * ((a_n : Nat) : Int) ≤ 281474976710656) ∧
  ∀ (r : Nat) (wv : World), New w (.cells ⟨zeroRow (.int .i64 0) (a_n * 1)⟩ 3 (0, 0)) r wv →
  ∃ (Inv : Int → World → Prop) (mu : Int → World → Nat), Inv 0 wv ∧
  ∀ (junk : Fr) (wv_1 : World) (i : Int), Inv i wv_1 →
    ((decide ((i : Int) < ((a_n : Nat) : Int))) = true →
      (0 ≤ (i : Int) ∧ (i : Int) < (a_n : Nat)) ∧ ptrS a_p fun ad => ∃ (t19 : Int), Loads P 3 (ad.add (i.toNat * 1)) (.int .i64 t19) wv_1 ∧ (0 ≤ (i : Int) ∧ (i : Int) < (a_n : Nat)) ∧ ∃ wv_2, Stores P 3 ((⟨r, 0, none⟩ : Addr).add (i.toNat * 1)) (.int .i64 t19) wv_1 wv_2 ∧
      ∃ t13 : Int, t13 = IntKind.wrap .i64 (i + 1) ∧ Inv t13 wv_2 ∧ mu t13 wv_2 < mu i wv_1) ∧
    ((decide ((i : Int) < ((a_n : Nat) : Int))) = false →
      R (.slice (some ⟨r, 0, none⟩) a_n a_n) wv_1)
theorem laws_toIntS_eq (a_p : Option Addr) (a_n : Nat) (a_c : Nat) (w : World) (R : Value → World → Prop) : laws_toIntS a_p a_n a_c w R = fsem P Tryd.f90 (fun k => cond (Nat.beq k 4) [(4, .one (.int .i64))] ([])) [(.slice a_p a_n a_c)] R w := by kernel_rfl
theorem laws_toIntS_ret {a_p : Option Addr} {a_n : Nat} {a_c : Nat} {w : World} {R : Value → World → Prop} (h : laws_toIntS a_p a_n a_c w R) : Ret P 90 [(.slice a_p a_n a_c)] w R :=
  Ret.of_fsem Tryd.func90 rfl (Eq.mp (laws_toIntS_eq a_p a_n a_c w R) h)
def laws_eqIntS (a_p : Option Addr) (a_n : Nat) (a_c : Nat) (b_p : Option Addr) (b_n : Nat) (b_c : Nat) (w : World) (R : Value → World → Prop) : Prop :=
  ((decide ((((a_n : Nat) : Int) : Int) ≠ ((b_n : Nat) : Int))) = true →
    R (.bool false) w) ∧
  ((decide ((((a_n : Nat) : Int) : Int) ≠ ((b_n : Nat) : Int))) = false →
    ∃ (Inv : Int → World → Prop) (mu : Int → World → Nat), Inv 0 w ∧
    ∀ (junk : Fr) (wv : World) (i : Int), Inv i wv →
      ((decide ((i : Int) < ((a_n : Nat) : Int))) = true →
        (0 ≤ (i : Int) ∧ (i : Int) < (a_n : Nat)) ∧ ptrS a_p fun ad => ∃ (t20 : Int), (∀ wv_1, Ext wv.drew wv_1 → Loads P 3 (ad.add (i.toNat * 1)) (.int .i64 t20) wv_1) ∧ (0 ≤ (i : Int) ∧ (i : Int) < (b_n : Nat)) ∧ ptrS b_p fun ad_1 => ∃ (t24 : Int), (∀ wv_2, Ext wv.drew wv_2 → Loads P 3 (ad_1.add (i.toNat * 1)) (.int .i64 t24) wv_2) ∧ ((decide ((t20 : Int) ≠ t24)) = true →
          R (.bool false) wv.drew) ∧
        ((decide ((t20 : Int) ≠ t24)) = false →
          ∃ t16 : Int, t16 = IntKind.wrap .i64 (i + 1) ∧ Inv t16 wv.drew ∧ mu t16 wv.drew < mu i wv)) ∧
      ((decide ((i : Int) < ((a_n : Nat) : Int))) = false →
        R (.bool true) wv))
theorem laws_eqIntS_eq (a_p : Option Addr) (a_n : Nat) (a_c : Nat) (b_p : Option Addr) (b_n : Nat) (b_c : Nat) (w : World) (R : Value → World → Prop) : laws_eqIntS a_p a_n a_c b_p b_n b_c w R = fsem P Tryd.f94 (fun k => cond (Nat.beq k 5) [(5, .one (.int .i64))] ([])) [(.slice a_p a_n a_c), (.slice b_p b_n b_c)] R w := by kernel_rfl
theorem laws_eqIntS_ret {a_p : Option Addr} {a_n : Nat} {a_c : Nat} {b_p : Option Addr} {b_n : Nat} {b_c : Nat} {w : World} {R : Value → World → Prop} (h : laws_eqIntS a_p a_n a_c b_p b_n b_c w R) : Ret P 94 [(.slice a_p a_n a_c), (.slice b_p b_n b_c)] w R :=
  Ret.of_fsem Tryd.func94 rfl (Eq.mp (laws_eqIntS_eq a_p a_n a_c b_p b_n b_c w R) h)
end Go.Proofs.YtpaekkcgphljoaaDoor

namespace Go.Proofs.YtpaekkcgphljoaaDoor.Sx
open Go Go.RowKit
set_option linter.unusedVariables false
set_option linter.unusedSimpArgs false
/-- only blocks in S (and new ones) have turned -/
theorem Ext.le {a b : World} (h : Ext a b) : a.heap.size ≤ b.heap.size := h.size
def Seg (w : World) (b off : Nat) (cs : List Value) : Prop := ∀ j v, cs[j]? = some v → w.cell? ⟨b, off + j, none⟩ = some v
theorem Seg.nil {w : World} {b off : Nat} : Seg w b off [] := fun j v h => by simp at h
theorem Seg.drop {w : World} {b off : Nat} {cs : List Value} (h : Seg w b off cs) (k : Nat) : Seg w b (off + k) (cs.drop k) := fun j v hj => by
  rw [List.getElem?_drop] at hj
  have := h _ _ hj
  rwa [Nat.add_assoc]
theorem Seg.take {w : World} {b off : Nat} {cs : List Value} (h : Seg w b off cs) (k : Nat) : Seg w b off (cs.take k) := fun j v hj => by
  rw [List.getElem?_take] at hj
  split at hj
  · exact h _ _ hj
  · cases hj
theorem Seg.ext {w w' : World} {b off : Nat} {cs : List Value} (h : Seg w b off cs) (he : Ext w w') : Seg w' b off cs := fun j v hj => by
  have h1 := h j v hj
  rw [← h1]
  exact he.cell (World.block_lt_of_cell? w _ h1)
theorem Seg.chg {S : List Nat} {w w' : World} {b off : Nat} {cs : List Value} (h : Seg w b off cs) (he : Chg S w w') (hb : b ∉ S) : Seg w' b off cs := fun j v hj => by
  have h1 := h j v hj
  rw [← h1]
  exact World.cell?_of_block (he.block b (World.block_lt_of_cell? w _ h1) hb)
/-- a block that is known whole -/
def Blk (w : World) (b : Nat) (e : TypeId) (xs : List Value) : Prop := w.heap[b]? = some (.cells ⟨xs⟩ e (0, 0))
theorem Blk.lt {w : World} {b : Nat} {e : TypeId} {xs : List Value} (h : Blk w b e xs) : b < w.heap.size := (Array.getElem?_eq_some_iff.1 h).1
theorem Blk.ext {w w' : World} {b : Nat} {e : TypeId} {xs : List Value} (h : Blk w b e xs) (he : Ext w w') : Blk w' b e xs := (he.block b h.lt).trans h
theorem Blk.chg {S : List Nat} {w w' : World} {b : Nat} {e : TypeId} {xs : List Value} (h : Blk w b e xs) (he : Chg S w w') (hb : b ∉ S) : Blk w' b e xs := (he.block b h.lt hb).trans h
theorem Blk.cell {w : World} {b : Nat} {e : TypeId} {xs : List Value} (h : Blk w b e xs) (j : Nat) : w.cell? ⟨b, j, none⟩ = xs[j]? := by
  rw [cell_of_row w b j _ e (0, 0) h]; simp
theorem Blk.seg {w : World} {b : Nat} {e : TypeId} {xs : List Value} (h : Blk w b e xs) : Seg w b 0 xs := fun j v hj => by rw [Nat.zero_add, h.cell, hj]
theorem New.ext {w w' : World} {o : Obj} {r : Nat} (h : New w o r w') : Ext w w' := by
  obtain ⟨rfl, rfl⟩ := h
  exact (Below.refl _ _).alloc (Nat.le_refl _) _
theorem New.size {w w' : World} {o : Obj} {r : Nat} (h : New w o r w') : w'.heap.size = w.heap.size + 1 := by
  obtain ⟨rfl, rfl⟩ := h; simp
theorem New.blk {w w' : World} {xs : List Value} {e : TypeId} {r : Nat} (h : New w (.cells ⟨xs⟩ e (0, 0)) r w') : Blk w' r e xs := by
  obtain ⟨rfl, rfl⟩ := h
  exact heap_alloc_new w _
theorem addr_add (b o k : Nat) : (⟨b, o, none⟩ : Addr).add k = ⟨b, o + k, none⟩ := Addr.add_lit b o k
section
variable {P : Program}
/-- a type whose values lie in one cell -/
def cellT (P : Program) (t : TypeId) : Bool :=
  match P.underlying t, P.info? t with
  | some (.struct _), _ => false
  | some (.array _ _), _ => false
  | some _, some i => Nat.beq i.size 1
  | _, _ => false
/-- a type whose values are aggregates of so many cells -/
def aggT (P : Program) (t : TypeId) (n : Nat) : Bool :=
  match P.underlying t, P.info? t with
  | some (.struct _), some i => Nat.beq i.size n
  | some (.array _ _), some i => Nat.beq i.size n
  | _, _ => false
theorem cellT_spec {t : TypeId} (h : cellT P t = true) : (∀ w, (isAgg t).run P w = .ok false w) ∧ ∃ i, P.info? t = some i ∧ i.size = 1 := by
  unfold cellT at h
  split at h <;> try cases h
  rename_i d i hs ha hu hi
  refine ⟨fun w => ?_, i, hi, Nat.eq_of_beq_eq_true h⟩
  unfold isAgg
  rw [Sem.run_bind, underlying_run hu w]
  cases d <;> first | rfl | (exact absurd rfl (hs _)) | (exact absurd rfl (ha _ _))
theorem aggT_spec {t : TypeId} {n : Nat} (h : aggT P t n = true) : (∀ w, (isAgg t).run P w = .ok true w) ∧ ∃ i, P.info? t = some i ∧ i.size = n := by
  unfold aggT at h
  split at h
  · rename_i fs i hu hi
    exact ⟨fun w => by unfold isAgg; rw [Sem.run_bind, underlying_run hu w]; rfl, i, hi, Nat.eq_of_beq_eq_true h⟩
  · rename_i k e i hu hi
    exact ⟨fun w => by unfold isAgg; rw [Sem.run_bind, underlying_run hu w]; rfl, i, hi, Nat.eq_of_beq_eq_true h⟩
  · cases h
theorem loads1 {w : World} {t : TypeId} {b o : Nat} {v : Value} (ht : cellT P t = true) (h : w.cell? ⟨b, o, none⟩ = some v) : Loads P t ⟨b, o, none⟩ v w := by
  unfold Loads loadVar
  rw [Sem.run_bind, (cellT_spec ht).1]
  simp [h]
theorem loadsA {w : World} {t : TypeId} {b o : Nat} {cs : List Value} (ht : aggT P t cs.length = true) (h : Seg w b o cs) : Loads P t ⟨b, o, none⟩ (.agg ⟨cs⟩) w := by
  obtain ⟨h1, i, hi, hn⟩ := aggT_spec ht
  unfold Loads loadVar
  rw [Sem.run_bind, h1]
  simp only [Result.andThen_ok, if_true, Sem.run_bind, sizeOf_run hi, hn]
  rw [run_loadCells_list (P := P) w ⟨b, o, none⟩ cs fun j v hv => by rw [addr_add]; exact h j v hv]
  rfl
theorem Seg.load {w : World} {t : TypeId} {b o k : Nat} {cs : List Value} {v : Value} (h : Seg w b o cs) (ht : cellT P t = true) (hx : cs[k]? = some v) : Loads P t ((⟨b, o, none⟩ : Addr).add k) v w := by
  rw [addr_add]; exact loads1 ht (h _ _ hx)
theorem Seg.loadA {w : World} {t : TypeId} {b o k : Nat} {cs xs : List Value} (h : Seg w b o cs) (ht : aggT P t xs.length = true) (hx : (cs.drop k).take xs.length = xs) : Loads P t ((⟨b, o, none⟩ : Addr).add k) (.agg ⟨xs⟩) w := by
  rw [addr_add]
  refine loadsA ht ?_
  have := (h.drop k).take xs.length
  rwa [hx] at this
theorem Blk.load {w : World} {t : TypeId} {b k : Nat} {e : TypeId} {cs : List Value} {v : Value} (h : Blk w b e cs) (ht : cellT P t = true) (hx : cs[k]? = some v) : Loads P t ((⟨b, 0, none⟩ : Addr).add k) v w :=
  h.seg.load ht hx
theorem Blk.loadA {w : World} {t : TypeId} {b k : Nat} {e : TypeId} {cs xs : List Value} (h : Blk w b e cs) (ht : aggT P t xs.length = true) (hx : (cs.drop k).take xs.length = xs) : Loads P t ((⟨b, 0, none⟩ : Addr).add k) (.agg ⟨xs⟩) w :=
  h.seg.loadA ht hx
theorem setRow_chg (w : World) (b : Nat) (cs : Array Value) : Chg [b] w (w.setRow b cs) :=
  ⟨rfl, rfl, rfl, by simp, fun k _ hk => setRow_other w b k _ (by simpa using hk)⟩
/-- a store into a block that is known whole -/
theorem Blk.store {w : World} {t : TypeId} {b k : Nat} {e : TypeId} {cs : List Value} {v : Value} (h : Blk w b e cs) (ht : cellT P t = true) (hk : k < cs.length) (hv : v.oneCell' = true) :
    ∃ w', Stores P t ((⟨b, 0, none⟩ : Addr).add k) v w w' ∧ Blk w' b e (cs.set k v) ∧ Chg [b] w w' ∧ w'.heap.size = w.heap.size := by
  obtain ⟨_, i, hi, hn⟩ := cellT_spec ht
  have hc : v.cells = #[v] := by cases v <;> first | rfl | (simp [Value.oneCell'] at hv)
  have hst := run_storeCells_at P b k e [v] 0 ⟨cs⟩ w h (by simp only [List.length_cons, List.length_nil]; show k + 0 + 1 ≤ cs.length; omega) (by simpa using hv)
  refine ⟨_, ?_, setRow_heap w b ⟨cs⟩ _ e _ h, setRow_chg _ _ _, by simp⟩
  · unfold Stores storeVar
    rw [addr_add, Nat.zero_add]
    simp only [Sem.run_bind, sizeOf_run hi, Result.andThen_ok, hc, hn, List.size_toArray, List.length_cons, List.length_nil]
    simp only [Nat.zero_add, ne_eq, not_true, if_false, Sem.run_pure, Result.andThen_ok]
    rw [hst]
    congr 3
    simp only [Nat.add_zero, List.length_cons, List.length_nil, Nat.zero_add]
    rw [List.set_eq_take_append_cons_drop]
    simp [hk]
/-- a store of an aggregate -/
theorem Blk.storeA {w : World} {t : TypeId} {b k : Nat} {e : TypeId} {cs xs : List Value} (h : Blk w b e cs) (ht : aggT P t xs.length = true) (hk : k + xs.length ≤ cs.length) (hv : ∀ v ∈ xs, v.oneCell' = true) :
    ∃ w', Stores P t ((⟨b, 0, none⟩ : Addr).add k) (.agg ⟨xs⟩) w w' ∧ Blk w' b e (cs.take k ++ xs ++ cs.drop (k + xs.length)) ∧ Chg [b] w w' ∧ w'.heap.size = w.heap.size := by
  obtain ⟨_, i, hi, hn⟩ := aggT_spec ht
  have hst := run_storeCells_at P b k e xs 0 ⟨cs⟩ w h (by simpa using hk) hv
  refine ⟨_, ?_, setRow_heap w b ⟨cs⟩ _ e _ h, setRow_chg _ _ _, by simp⟩
  unfold Stores storeVar
  rw [addr_add, Nat.zero_add]
  simp only [Sem.run_bind, sizeOf_run hi, Result.andThen_ok, Value.cells, hn, List.size_toArray]
  simp only [ne_eq, not_true, if_false, Sem.run_pure, Result.andThen_ok]
  rw [hst]
  simp
/-- a slice type: its element type, that one's zero value, cells and bytes -/
def sliceT (P : Program) (t e : TypeId) (z : Value) (size bytes : Nat) : Prop :=
  P.underlying t = some (.slice e) ∧ (P.info? e).map (fun i => (i.zero, i.size, i.bytes)) = some (some z, size, bytes) ∧ z.cells.size = size ∧ 0 < size
/-- a slice whose cells are one's own -/
def Own (w : World) (base : Nat) (e : TypeId) (size : Nat) (p : Option Addr) (n c : Nat) (xs : List Value) : Prop := w.ownsRow base e size (.slice p n c) n xs
theorem Own.nil (w : World) (base : Nat) (e : TypeId) (size : Nat) : Own w base e size none 0 0 [] := World.ownsRow_nil w base e size
theorem Own.ext {w w' : World} {base : Nat} {e : TypeId} {size : Nat} {p : Option Addr} {n c : Nat} {xs : List Value} (h : Own w base e size p n c xs) (he : Ext w w') : Own w' base e size p n c xs :=
  h.kept (row := none) ⟨he.os, he.tape, he.output, he.size, fun k hk _ => he.block k hk⟩ (by cases p <;> simp [Value.ownBlock])
theorem Own.of_blk {w : World} {base : Nat} {e : TypeId} {size : Nat} {r n : Nat} {xs : List Value} (h : Blk w r e xs) (hb : base ≤ r) (hl : xs.length = n * size) (hn : n ≤ maxLen) : Own w base e size (some ⟨r, 0, none⟩) n n xs :=
  ⟨hl, .inr ⟨r, n, ⟨xs⟩, rfl, hb, h, Nat.le_refl _, hn, by simpa using hl, by simp [← hl]⟩⟩
theorem Own.of_blk0 {w : World} {base : Nat} {e : TypeId} {size : Nat} {r n : Nat} {xs : List Value} (h : Blk w r e xs) (hb : base ≤ r) (hl : xs.length = n * size) (hn : n ≤ maxLen) : Own w base e size (some ⟨r, 0, none⟩) 0 n [] :=
  ⟨by simp, .inr ⟨r, n, ⟨xs⟩, rfl, hb, h, Nat.zero_le _, hn, by simpa using hl, by simp⟩⟩
theorem Own.len {w : World} {base : Nat} {e : TypeId} {size : Nat} {p : Option Addr} {n c : Nat} {xs : List Value} (h : Own w base e size p n c xs) : xs.length = n * size := h.1
theorem Own.le {w : World} {base : Nat} {e : TypeId} {size : Nat} {p : Option Addr} {n c : Nat} {xs : List Value} (h : Own w base e size p n c xs) : n ≤ c := by
  rcases h.2 with ⟨h1, h2⟩ | ⟨g, cap, cur, h1, _, _, h3, _⟩
  · omega
  · simp only [Value.slice.injEq] at h1; omega
theorem Own.capLe {w : World} {base : Nat} {e : TypeId} {size : Nat} {p : Option Addr} {n c : Nat} {xs : List Value} (h : Own w base e size p n c xs) : c ≤ 9223372036854775807 := by
  rcases h.2 with ⟨h1, h2⟩ | ⟨g, cap, cur, h1, _, _, h3, h4, _⟩
  · simp only [Value.slice.injEq] at h1; omega
  · simp only [Value.slice.injEq] at h1; simp only [maxLen] at h4; omega
theorem Own.seg {w : World} {base : Nat} {e : TypeId} {size : Nat} {p : Option Addr} {n c : Nat} {xs : List Value} (h : Own w base e size p n c xs) (hn : 0 < n) : ∃ b, p = some ⟨b, 0, none⟩ ∧ base ≤ b ∧ Seg w b 0 xs := by
  rcases h.2 with ⟨h1, h2⟩ | ⟨g, cap, cur, h1, hb, hg, h3, h4, h5, h6⟩
  · omega
  · simp only [Value.slice.injEq] at h1
    refine ⟨g, h1.1, hb, fun j v hj => ?_⟩
    rw [Nat.zero_add, cell_of_row w g j cur e (0, 0) hg]
    rw [← h6, List.getElem?_take] at hj
    split at hj
    · simpa using hj
    · cases hj
theorem Own.mono {w : World} {base base' : Nat} {e : TypeId} {size : Nat} {p : Option Addr} {n c : Nat} {xs : List Value} (h : Own w base e size p n c xs) (hb : base' ≤ base) : Own w base' e size p n c xs := by
  refine ⟨h.1, ?_⟩
  rcases h.2 with h1 | ⟨g, cap, cur, h1, h2, h3⟩
  · exact .inl h1
  · exact .inr ⟨g, cap, cur, h1, Nat.le_trans hb h2, h3⟩
/-- append onto a row of one's own: m elements that lie in a block known whole -/
theorem Own.append {w : World} {base : Nat} {t e : TypeId} {z : Value} {size bytes : Nat} {p : Option Addr} {n c r m mc : Nat} {xs news : List Value} (h : Own w base e size p n c xs)
    (hT : sliceT P t e z size bytes) (hb : base ≤ w.heap.size) (hr : Blk w r e news) (hl : news.length = m * size) (h1 : ∀ u ∈ news, u.oneCell' = true)
    (hbytes : (n + m) * bytes ≤ 140737488355328) (hby : 1 ≤ bytes) :
    ∃ p' c' w', Appends P [t, t] [.slice p n c, .slice (some ⟨r, 0, none⟩) m mc] (.slice p' (n + m) c') w w' ∧ Own w' base e size p' (n + m) c' (xs ++ news) ∧
      (∀ w0, Ext w0 w → w0.heap.size ≤ base → Ext w0 w') ∧ (∀ b e' ys, Blk w b e' ys → p.map (·.block) ≠ some b → Blk w' b e' ys) ∧
      (∀ b o ys, Seg w b o ys → p.map (·.block) ≠ some b → Seg w' b o ys) := by
  obtain ⟨hu, hi, hz, hs⟩ := hT
  cases hinf : P.info? e with
  | none => rw [hinf] at hi; cases hi
  | some i =>
    rw [hinf] at hi
    simp only [Option.map_some, Option.some.injEq, Prod.mk.injEq] at hi
    have hnm : n + m ≤ maxLen := by
      have : n + m ≤ (n + m) * bytes := Nat.le_mul_of_pos_right _ hby
      simp only [maxLen]; omega
    obtain ⟨v', w', hrun, hown, hgr, _⟩ := run_append_own (P := P) w base t 0 e i z size bytes hu hinf hi.1 hi.2.1 hi.2.2 hz hs (.slice p n c) n xs h ⟨r, 0, none⟩ m mc news hl
      (fun j u hj => by rw [addr_add, Nat.zero_add, hr.cell, hj]) h1 hnm hbytes hb
    have hlt := h.lt
    have hv : ∃ p' c', v' = .slice p' (n + m) c' := by
      rcases hown.2 with ⟨e1, e2⟩ | ⟨g, cap, cur, e1, _⟩
      · exact ⟨none, 0, by rw [e1, e2]⟩
      · exact ⟨_, _, e1⟩
    obtain ⟨p', c', rfl⟩ := hv
    have hob : (Value.slice p n c).ownBlock = p.map (·.block) := by cases p <;> rfl
    refine ⟨p', c', w', hrun, hown, ?_, ?_, ?_⟩
    · intro w0 hx hb0
      refine hx.chg (S := (p.map (·.block)).toList) ⟨hgr.os, hgr.tape, hgr.output, hgr.size, fun k hk hn => hgr.block k hk ?_⟩ ?_
      · rw [hob]; intro e; rw [← e] at hn; simp at hn
      · intro x hx'
        have := (hlt x (by rw [hob]; cases p <;> simp_all)).1
        omega
    · intro b e' ys hy hne
      exact (hgr.block b hy.lt (by rw [hob]; exact fun e => hne e.symm)).trans hy
    · intro b o ys hy hne j v hj
      have h3 := hy j v hj
      rw [← h3]
      exact World.cell?_of_block (hgr.block b (World.block_lt_of_cell? w _ h3) (by rw [hob]; exact fun e => hne e.symm))
end
/-- a slice of numbers reads as zs -/
def IntsR (w : World) (p : Option Addr) (n c : Nat) (zs : List Int) : Prop :=
  zs.length = n ∧ n ≤ c ∧ c ≤ 9223372036854775807 ∧ (0 < n → ∃ b off, p = some ⟨b, off, none⟩ ∧ Seg w b off (zs.map (Value.int .i64)))
theorem IntsR.ext {w w' : World} {p : Option Addr} {n c : Nat} {zs : List Int} (h : IntsR w p n c zs) (he : Ext w w') : IntsR w' p n c zs :=
  ⟨h.1, h.2.1, h.2.2.1, fun hn => let ⟨b, off, hp, hs⟩ := h.2.2.2 hn; ⟨b, off, hp, hs.ext he⟩⟩
theorem IntsR.chg {S : List Nat} {w w' : World} {p : Option Addr} {n c : Nat} {zs : List Int} (h : IntsR w p n c zs) (he : Chg S w w') (hS : ∀ b, p.map (·.block) = some b → b ∉ S) : IntsR w' p n c zs :=
  ⟨h.1, h.2.1, h.2.2.1, fun hn => let ⟨b, off, hp, hs⟩ := h.2.2.2 hn; ⟨b, off, hp, hs.chg he (hS b (by rw [hp]; rfl))⟩⟩
theorem IntsR.nil (w : World) (p : Option Addr) {c : Nat} (hc : c ≤ 9223372036854775807) : IntsR w p 0 c [] := ⟨rfl, Nat.zero_le _, hc, fun h => absurd h (by omega)⟩
theorem Own.ints {w : World} {base : Nat} {e : TypeId} {p : Option Addr} {n c : Nat} {zs : List Int} (h : Own w base e 1 p n c (zs.map (Value.int .i64))) : IntsR w p n c zs :=
  ⟨by simpa using h.len, h.le, h.capLe, fun hn => let ⟨b, hp, _, hs⟩ := h.seg hn; ⟨b, 0, hp, hs⟩⟩
/-- the cell of number k -/
theorem IntsR.at {P : Program} {w : World} {p : Option Addr} {n c k : Nat} {zs : List Int} (h : IntsR w p n c zs) {t : TypeId} (ht : cellT P t = true) (hk : k < n) :
    ∃ a, p = some a ∧ Loads P t (a.add (k * 1)) (.int .i64 (zs[k]'(by rw [h.1]; exact hk))) w := by
  obtain ⟨b, off, hp, hs⟩ := h.2.2.2 (by omega)
  refine ⟨_, hp, ?_⟩
  rw [Nat.mul_one]
  exact hs.load ht (by simp [List.getElem?_eq_getElem (by rw [h.1]; exact hk : k < zs.length)])
theorem wrap64 {e : Int} (h1 : -9223372036854775808 ≤ e) (h2 : e ≤ 9223372036854775807) : IntKind.wrap .i64 e = e := by
  simp only [IntKind.wrap, IntKind.bits, IntKind.signed]
  by_cases h0 : 0 ≤ e
  · have : e % (2 ^ 64 : Int) = e := Int.emod_eq_of_lt h0 (by omega)
    simp [this]; omega
  · have : e % (2 ^ 64 : Int) = e + 2 ^ 64 := by omega
    simp [this]; omega
/-- a sum that fits -/
theorem exW {e : Int} {Q : Int → Prop} (h : -9223372036854775808 ≤ e ∧ e ≤ 9223372036854775807) (hq : Q e) : ∃ z, z = IntKind.wrap .i64 e ∧ Q z := ⟨e, (wrap64 h.1 h.2).symm, hq⟩
/-- a test, both ways -/
theorem ifD {p : Prop} [Decidable p] {A B : Prop} (ha : p → A) (hb : ¬ p → B) : (decide p = true → A) ∧ (decide p = false → B) :=
  ⟨fun h => ha (of_decide_eq_true h), fun h => hb (of_decide_eq_false h)⟩
theorem ifN {b : Bool} {A B : Prop} (ha : b = false → A) (hb : b = true → B) : ((!b) = true → A) ∧ ((!b) = false → B) := ⟨fun h => ha (by simpa using h), fun h => hb (by simpa using h)⟩
theorem ifT {A B : Prop} (ha : A) : (true = true → A) ∧ (true = false → B) := ⟨fun _ => ha, fun h => nomatch h⟩
theorem ifF {A B : Prop} (hb : B) : (false = true → A) ∧ (false = false → B) := ⟨fun h => (nomatch h), fun _ => hb⟩
theorem zeroRow_int (k : IntKind) (z : Int) (n : Nat) : zeroRow (.int k z) n = List.replicate n (.int k z) := by
  unfold zeroRow
  apply List.ext_getElem
  · simp
  · intro i h1 h2
    simp [Value.cells, Nat.mod_one]
end Go.Proofs.YtpaekkcgphljoaaDoor.Sx

namespace Go.Proofs.YtpaekkcgphljoaaDoor.Sx
open Go Go.RowKit
set_option linter.unusedVariables false
set_option linter.unusedSimpArgs false
/-- what one cell reads as -/
inductive D0 where
  | int (n : Int) | bool (b : Bool) | str (s : ByteArray) | ints (l : List Int)
  deriving DecidableEq
inductive C0 where
  | int | bool | str | ints
  deriving DecidableEq
def D0.code : D0 → C0
  | .int _ => .int
  | .bool _ => .bool
  | .str _ => .str
  | .ints _ => .ints
def Rep0 (w : World) (v : Value) : D0 → Prop
  | .int n => v = .int .i64 n
  | .bool b => v = .bool b
  | .str s => v = .string s
  | .ints zs => ∃ p n c, v = .slice p n c ∧ IntsR w p n c zs
def Reps (w : World) : List Value → List D0 → Prop
  | [], [] => True
  | v :: vs, d :: ds => Rep0 w v d ∧ Reps w vs ds
  | _, _ => False
theorem Rep0.ext {w w' : World} {v : Value} {d : D0} (h : Rep0 w v d) (he : Ext w w') : Rep0 w' v d := by
  cases d <;> simp only [Rep0] at h ⊢ <;> try exact h
  obtain ⟨p, n, c, hv, hi⟩ := h
  exact ⟨p, n, c, hv, hi.ext he⟩
theorem Reps.ext {w w' : World} : ∀ {vs : List Value} {ds : List D0}, Reps w vs ds → Ext w w' → Reps w' vs ds
  | [], [], _, _ => trivial
  | [], _ :: _, h, _ => h.elim
  | _ :: _, [], h, _ => h.elim
  | _ :: _, _ :: _, h, he => ⟨h.1.ext he, Reps.ext h.2 he⟩
theorem Reps.len {w : World} : ∀ {vs : List Value} {ds : List D0}, Reps w vs ds → vs.length = ds.length
  | [], [], _ => rfl
  | [], _ :: _, h => h.elim
  | _ :: _, [], h => h.elim
  | _ :: _, _ :: _, h => by simp [Reps.len h.2]
theorem Reps.append {w : World} : ∀ {vs us : List Value} {ds es : List D0}, Reps w vs ds → Reps w us es → Reps w (vs ++ us) (ds ++ es)
  | [], _, [], _, _, k => k
  | [], _, _ :: _, _, h, _ => h.elim
  | _ :: _, _, [], _, h, _ => h.elim
  | _ :: _, _, _ :: _, _, h, k => ⟨h.1, Reps.append h.2 k⟩
theorem Reps.one {w : World} {vs : List Value} {ds : List D0} (h : Reps w vs ds) (h1 : ∀ v ∈ vs, v.oneCell' = true → True) : True := trivial
/-- every such cell is one cell -/
theorem Rep0.cell1 {w : World} {v : Value} {d : D0} (h : Rep0 w v d) : v.oneCell' = true := by
  cases d <;> simp only [Rep0] at h
  case ints l => obtain ⟨p, n, c, hv, _⟩ := h; rw [hv]; rfl
  all_goals (rw [h]; rfl)
theorem Reps.cells1 {w : World} : ∀ {vs : List Value} {ds : List D0}, Reps w vs ds → ∀ v ∈ vs, v.oneCell' = true
  | [], [], _, v, hv => by simp at hv
  | [], _ :: _, h, _, _ => h.elim
  | _ :: _, [], h, _, _ => h.elim
  | x :: xs, d :: ds, h, v, hv => by
    rcases List.mem_cons.1 hv with e | e
    · rw [e]; exact h.1.cell1
    · exact Reps.cells1 h.2 v e
/-- by its code, a list of cells comes written out -/
theorem Reps.int {w : World} {vs : List Value} {ds : List D0} {cs : List C0} (h : Reps w vs ds) (hc : ds.map D0.code = .int :: cs) : ∃ n us es, vs = .int .i64 n :: us ∧ ds = .int n :: es ∧ Reps w us es ∧ es.map D0.code = cs := by
  cases ds with
  | nil => simp at hc
  | cons d es =>
    cases vs with
    | nil => exact h.elim
    | cons v us =>
      simp only [List.map_cons, List.cons.injEq] at hc
      cases d <;> simp [D0.code] at hc
      rename_i n
      exact ⟨n, us, es, by rw [show v = _ from h.1], rfl, h.2, hc⟩
theorem Reps.bool {w : World} {vs : List Value} {ds : List D0} {cs : List C0} (h : Reps w vs ds) (hc : ds.map D0.code = .bool :: cs) : ∃ b us es, vs = .bool b :: us ∧ ds = .bool b :: es ∧ Reps w us es ∧ es.map D0.code = cs := by
  cases ds with
  | nil => simp at hc
  | cons d es =>
    cases vs with
    | nil => exact h.elim
    | cons v us =>
      simp only [List.map_cons, List.cons.injEq] at hc
      cases d <;> simp [D0.code] at hc
      rename_i n
      exact ⟨n, us, es, by rw [show v = _ from h.1], rfl, h.2, hc⟩
theorem Reps.str {w : World} {vs : List Value} {ds : List D0} {cs : List C0} (h : Reps w vs ds) (hc : ds.map D0.code = .str :: cs) : ∃ s us es, vs = .string s :: us ∧ ds = .str s :: es ∧ Reps w us es ∧ es.map D0.code = cs := by
  cases ds with
  | nil => simp at hc
  | cons d es =>
    cases vs with
    | nil => exact h.elim
    | cons v us =>
      simp only [List.map_cons, List.cons.injEq] at hc
      cases d <;> simp [D0.code] at hc
      rename_i n
      exact ⟨n, us, es, by rw [show v = _ from h.1], rfl, h.2, hc⟩
theorem Reps.ints {w : World} {vs : List Value} {ds : List D0} {cs : List C0} (h : Reps w vs ds) (hc : ds.map D0.code = .ints :: cs) :
    ∃ p n c zs us es, vs = .slice p n c :: us ∧ ds = .ints zs :: es ∧ IntsR w p n c zs ∧ Reps w us es ∧ es.map D0.code = cs := by
  cases ds with
  | nil => simp at hc
  | cons d es =>
    cases vs with
    | nil => exact h.elim
    | cons v us =>
      simp only [List.map_cons, List.cons.injEq] at hc
      cases d <;> simp [D0.code] at hc
      rename_i zs
      obtain ⟨p, n, c, hv, hi⟩ := h.1
      exact ⟨p, n, c, zs, us, es, by rw [hv], rfl, hi, h.2, hc⟩
theorem Reps.done {w : World} {vs : List Value} {ds : List D0} (h : Reps w vs ds) (hc : ds.map D0.code = []) : vs = [] ∧ ds = [] := by
  have : ds = [] := by simpa using hc
  subst this
  cases vs with
  | nil => exact ⟨rfl, rfl⟩
  | cons _ _ => exact h.elim
/-- a slice of structs of k cells -/
def RowsR (w : World) (k : Nat) (p : Option Addr) (n c : Nat) (l : List (List D0)) : Prop :=
  l.length = n ∧ n ≤ c ∧ c ≤ 9223372036854775807 ∧ (0 < n → ∃ b off, p = some ⟨b, off, none⟩ ∧ ∀ i x, l[i]? = some x → ∃ cs, cs.length = k ∧ Reps w cs x ∧ Seg w b (off + i * k) cs)
theorem RowsR.ext {w w' : World} {k : Nat} {p : Option Addr} {n c : Nat} {l : List (List D0)} (h : RowsR w k p n c l) (he : Ext w w') : RowsR w' k p n c l :=
  ⟨h.1, h.2.1, h.2.2.1, fun hn => let ⟨b, off, hp, hs⟩ := h.2.2.2 hn; ⟨b, off, hp, fun i x hx => let ⟨cs, h1, h2, h3⟩ := hs i x hx; ⟨cs, h1, h2.ext he, h3.ext he⟩⟩⟩
theorem RowsR.nil (w : World) (k : Nat) (p : Option Addr) {c : Nat} (hc : c ≤ 9223372036854775807) : RowsR w k p 0 c [] := ⟨rfl, Nat.zero_le _, hc, fun h => absurd h (by omega)⟩
/-- element i -/
theorem RowsR.at {P : Program} {w : World} {k : Nat} {p : Option Addr} {n c i : Nat} {l : List (List D0)} (h : RowsR w k p n c l) {t : TypeId} (ht : aggT P t k = true) (hi : i < n) :
    ∃ a cs, p = some a ∧ cs.length = k ∧ Reps w cs (l[i]'(by rw [h.1]; exact hi)) ∧ Loads P t (a.add (i * k)) (.agg ⟨cs⟩) w := by
  obtain ⟨b, off, hp, hs⟩ := h.2.2.2 (by omega)
  obtain ⟨cs, h1, h2, h3⟩ := hs i _ (List.getElem?_eq_getElem (by rw [h.1]; exact hi))
  refine ⟨_, cs, hp, h1, h2, ?_⟩
  rw [addr_add]
  exact loadsA (by rw [h1]; exact ht) h3
/-- how much there is of it -/
def D0.bulk : D0 → Nat
  | .str s => s.size
  | .ints l => l.length
  | _ => 0
def bulks (ds : List D0) : Nat := (ds.map D0.bulk).sum
/-- what a reading says of sizes -/
def D0.ok : D0 → Prop
  | .int n => -9223372036854775808 ≤ n ∧ n ≤ 9223372036854775807
  | .str s => s.size ≤ 9223372036854775807
  | .ints l => l.length ≤ 9223372036854775807
  | .bool _ => True
end Go.Proofs.YtpaekkcgphljoaaDoor.Sx

namespace Go.Proofs.YtpaekkcgphljoaaDoor.Sx
open Go Go.RowKit
set_option linter.unusedVariables false
set_option linter.unusedSimpArgs false
section
variable {P : Program}
theorem Blk.load0 {w : World} {t : TypeId} {b k : Nat} {e : TypeId} {cs : List Value} {v : Value} (h : Blk w b e cs) (ht : cellT P t = true) (hx : cs[k]? = some v) : Loads P t ⟨b, k, none⟩ v w :=
  loads1 ht (by rw [h.cell]; exact hx)
theorem Blk.loadA0 {w : World} {t : TypeId} {b : Nat} {e : TypeId} {cs : List Value} (h : Blk w b e cs) (ht : aggT P t cs.length = true) : Loads P t ⟨b, 0, none⟩ (.agg ⟨cs⟩) w :=
  loadsA ht h.seg
theorem Blk.storeA0 {w : World} {t : TypeId} {b : Nat} {e : TypeId} {cs xs : List Value} (h : Blk w b e cs) (ht : aggT P t xs.length = true) (hk : xs.length = cs.length) (hv : ∀ v ∈ xs, v.oneCell' = true) :
    ∃ w', Stores P t ⟨b, 0, none⟩ (.agg ⟨xs⟩) w w' ∧ Blk w' b e xs ∧ Chg [b] w w' ∧ w'.heap.size = w.heap.size := by
  obtain ⟨w', h1, h2, h3, h4⟩ := h.storeA (P := P) (k := 0) ht (by omega) hv
  rw [addr_add, Nat.zero_add] at h1
  refine ⟨w', h1, ?_, h3, h4⟩
  rw [List.take_zero, List.nil_append, Nat.zero_add, hk, List.drop_length, List.append_nil] at h2
  exact h2
end
def Own0 (w : World) (B : Nat) (v : Value) : D0 → List Nat → Prop
  | .int n, f => v = .int .i64 n ∧ f = []
  | .bool b, f => v = .bool b ∧ f = []
  | .str s, f => v = .string s ∧ f = []
  | .ints zs, f => ∃ p n c, v = .slice p n c ∧ Own w B T_int 1 p n c (zs.map (Value.int .i64)) ∧ f = (p.map (·.block)).toList
def Owns (w : World) (B : Nat) : List Value → List D0 → List Nat → Prop
  | [], [], f => f = []
  | v :: vs, d :: ds, f => ∃ f1 f2, f = f1 ++ f2 ∧ Own0 w B v d f1 ∧ Owns w B vs ds f2
  | _, _, _ => False
theorem Own0.rep {w : World} {B : Nat} {v : Value} {d : D0} {f : List Nat} (h : Own0 w B v d f) : Rep0 w v d := by
  cases d <;> simp only [Own0] at h <;> simp only [Rep0]
  case ints zs => obtain ⟨p, n, c, hv, ho, _⟩ := h; exact ⟨p, n, c, hv, ho.ints⟩
  all_goals exact h.1
theorem Owns.reps {w : World} {B : Nat} : ∀ {vs : List Value} {ds : List D0} {f : List Nat}, Owns w B vs ds f → Reps w vs ds
  | [], [], _, _ => trivial
  | [], _ :: _, _, h => h.elim
  | _ :: _, [], _, h => h.elim
  | _ :: _, _ :: _, _, h => by
    obtain ⟨f1, f2, _, h1, h2⟩ := h
    exact ⟨h1.rep, Owns.reps h2⟩
theorem Own0.lt {w : World} {B : Nat} {v : Value} {d : D0} {f : List Nat} (h : Own0 w B v d f) : ∀ k ∈ f, B ≤ k ∧ k < w.heap.size := by
  cases d <;> simp only [Own0] at h
  case ints zs =>
    obtain ⟨p, n, c, hv, ho, hf⟩ := h
    intro k hk
    rw [hf] at hk
    exact World.ownsRow.lt ho k (by cases p <;> simp_all [Value.ownBlock])
  all_goals (intro k hk; rw [h.2] at hk; simp at hk)
theorem Owns.lt {w : World} {B : Nat} : ∀ {vs : List Value} {ds : List D0} {f : List Nat}, Owns w B vs ds f → ∀ k ∈ f, B ≤ k ∧ k < w.heap.size
  | [], [], _, h, k, hk => by rw [h] at hk; simp at hk
  | [], _ :: _, _, h, _, _ => h.elim
  | _ :: _, [], _, h, _, _ => h.elim
  | _ :: _, _ :: _, _, h, k, hk => by
    obtain ⟨f1, f2, rfl, h1, h2⟩ := h
    rcases List.mem_append.1 hk with hk | hk
    · exact h1.lt k hk
    · exact Owns.lt h2 k hk
theorem Own0.ext {w w' : World} {B : Nat} {v : Value} {d : D0} {f : List Nat} (h : Own0 w B v d f) (he : Ext w w') : Own0 w' B v d f := by
  cases d <;> simp only [Own0] at h ⊢ <;> try exact h
  obtain ⟨p, n, c, hv, ho, hf⟩ := h
  exact ⟨p, n, c, hv, ho.ext he, hf⟩
theorem Owns.ext {w w' : World} {B : Nat} : ∀ {vs : List Value} {ds : List D0} {f : List Nat}, Owns w B vs ds f → Ext w w' → Owns w' B vs ds f
  | [], [], _, h, _ => h
  | [], _ :: _, _, h, _ => h.elim
  | _ :: _, [], _, h, _ => h.elim
  | _ :: _, _ :: _, _, h, he => by
    obtain ⟨f1, f2, rfl, h1, h2⟩ := h
    exact ⟨f1, f2, rfl, h1.ext he, Owns.ext h2 he⟩
theorem Own.chg {S : List Nat} {w w' : World} {B : Nat} {e : TypeId} {size : Nat} {p : Option Addr} {n c : Nat} {xs : List Value} (h : Own w B e size p n c xs) (he : Chg S w w') (hS : ∀ k, p.map (·.block) = some k → k ∉ S) : Own w' B e size p n c xs := by
  refine ⟨h.1, ?_⟩
  rcases h.2 with h1 | ⟨g, cap, cur, h1, h2, h3, h4⟩
  · exact .inl h1
  · refine .inr ⟨g, cap, cur, h1, h2, ?_, h4⟩
    simp only [Value.slice.injEq] at h1
    rw [he.block g (Array.getElem?_eq_some_iff.1 h3).1 (hS g (by rw [h1.1]; rfl))]
    exact h3
theorem Own0.chg {S : List Nat} {w w' : World} {B : Nat} {v : Value} {d : D0} {f : List Nat} (h : Own0 w B v d f) (he : Chg S w w') (hS : ∀ k ∈ f, k ∉ S) : Own0 w' B v d f := by
  cases d <;> simp only [Own0] at h ⊢ <;> try exact h
  obtain ⟨p, n, c, hv, ho, hf⟩ := h
  exact ⟨p, n, c, hv, ho.chg he (fun k hk => hS k (by rw [hf, hk]; simp)), hf⟩
theorem Owns.chg {S : List Nat} {w w' : World} {B : Nat} : ∀ {vs : List Value} {ds : List D0} {f : List Nat}, Owns w B vs ds f → Chg S w w' → (∀ k ∈ f, k ∉ S) → Owns w' B vs ds f
  | [], [], _, h, _, _ => h
  | [], _ :: _, _, h, _, _ => h.elim
  | _ :: _, [], _, h, _, _ => h.elim
  | _ :: _, _ :: _, _, h, he, hS => by
    obtain ⟨f1, f2, rfl, h1, h2⟩ := h
    exact ⟨f1, f2, rfl, h1.chg he (fun k hk => hS k (by simp [hk])), Owns.chg h2 he (fun k hk => hS k (by simp [hk]))⟩
/-- blocks from B on are not touched where only older ones turn -/
theorem Owns.chg1 {r : Nat} {w w' : World} {B : Nat} {vs : List Value} {ds : List D0} {f : List Nat} (h : Owns w B vs ds f) (he : Chg [r] w w') (hr : r < B) : Owns w' B vs ds f :=
  h.chg he fun k hk hm => by
    have := (h.lt k hk).1
    simp at hm; omega
theorem Own0.mono {w : World} {B B' : Nat} {v : Value} {d : D0} {f : List Nat} (h : Own0 w B v d f) (hb : B' ≤ B) : Own0 w B' v d f := by
  cases d <;> simp only [Own0] at h ⊢ <;> try exact h
  obtain ⟨p, n, c, hv, ho, hf⟩ := h
  exact ⟨p, n, c, hv, ho.mono hb, hf⟩
theorem Owns.mono {w : World} {B B' : Nat} (hb : B' ≤ B) : ∀ {vs : List Value} {ds : List D0} {f : List Nat}, Owns w B vs ds f → Owns w B' vs ds f
  | [], [], _, h => h
  | [], _ :: _, _, h => h.elim
  | _ :: _, [], _, h => h.elim
  | _ :: _, _ :: _, _, h => by
    obtain ⟨f1, f2, rfl, h1, h2⟩ := h
    exact ⟨f1, f2, rfl, h1.mono hb, Owns.mono hb h2⟩
theorem Owns.append {w : World} {B : Nat} : ∀ {vs us : List Value} {ds es : List D0} {f g : List Nat}, Owns w B vs ds f → Owns w B us es g → Owns w B (vs ++ us) (ds ++ es) (f ++ g)
  | [], _, [], _, f, g, h, k => by rw [show f = [] from h]; exact k
  | [], _, _ :: _, _, _, _, h, _ => h.elim
  | _ :: _, _, [], _, _, _, h, _ => h.elim
  | _ :: _, _, _ :: _, _, _, g, h, k => by
    obtain ⟨f1, f2, rfl, h1, h2⟩ := h
    exact ⟨f1, f2 ++ g, by simp, h1, Owns.append h2 k⟩
theorem Owns.nil (w : World) (B : Nat) : Owns w B [] [] [] := rfl
theorem Owns.bool (w : World) (B : Nat) (b : Bool) : Owns w B [.bool b] [.bool b] [] := ⟨[], [], rfl, ⟨rfl, rfl⟩, rfl⟩
theorem Owns.int (w : World) (B : Nat) (n : Int) : Owns w B [.int .i64 n] [.int n] [] := ⟨[], [], rfl, ⟨rfl, rfl⟩, rfl⟩
theorem Owns.str (w : World) (B : Nat) (s : ByteArray) : Owns w B [.string s] [.str s] [] := ⟨[], [], rfl, ⟨rfl, rfl⟩, rfl⟩
theorem Owns.ints {w : World} {B : Nat} {p : Option Addr} {n c : Nat} {zs : List Int} (h : Own w B T_int 1 p n c (zs.map (Value.int .i64))) : Owns w B [.slice p n c] [.ints zs] (p.map (·.block)).toList :=
  ⟨_, [], by simp, ⟨p, n, c, rfl, h, rfl⟩, rfl⟩
/-- what is older ahead of what is newer: no block twice -/
theorem nodup_append {f g : List Nat} {m : Nat} (hf : f.Nodup) (hg : g.Nodup) (h1 : ∀ k ∈ f, k < m) (h2 : ∀ k ∈ g, m ≤ k) : (f ++ g).Nodup := by
  rw [List.nodup_append]
  exact ⟨hf, hg, fun a ha b hb e => by have := h1 a ha; have := h2 b hb; omega⟩
/-- a load at an address in whatever form -/
theorem Blk.loadAt {P : Program} {w : World} {t : TypeId} {b : Nat} {e : TypeId} {cs : List Value} {v : Value} {a : Addr} (k : Nat) (h : Blk w b e cs) (ha : a = ⟨b, k, none⟩) (ht : cellT P t = true) (hx : cs[k]? = some v) : Loads P t a v w := by
  subst ha; exact h.load0 ht hx
theorem Blk.loadAAt {P : Program} {w : World} {t : TypeId} {b : Nat} {e : TypeId} {cs : List Value} {a : Addr} (k : Nat) (xs : List Value) (h : Blk w b e cs) (ha : a = ⟨b, k, none⟩) (ht : aggT P t xs.length = true) (hx : (cs.drop k).take xs.length = xs) : Loads P t a (.agg ⟨xs⟩) w := by
  subst ha
  have := h.loadA (P := P) (k := k) ht hx
  rwa [addr_add, Nat.zero_add] at this
theorem Seg.loadAt {P : Program} {w : World} {t : TypeId} {b o : Nat} {cs : List Value} {v : Value} {a : Addr} (k : Nat) (h : Seg w b o cs) (ha : a = ⟨b, o + k, none⟩) (ht : cellT P t = true) (hx : cs[k]? = some v) : Loads P t a v w := by
  subst ha; exact loads1 ht (h _ _ hx)
theorem Seg.loadAAt {P : Program} {w : World} {t : TypeId} {b o : Nat} {cs : List Value} {a : Addr} (k : Nat) (xs : List Value) (h : Seg w b o cs) (ha : a = ⟨b, o + k, none⟩) (ht : aggT P t xs.length = true) (hx : (cs.drop k).take xs.length = xs) : Loads P t a (.agg ⟨xs⟩) w := by
  subst ha
  have := h.loadA (P := P) (k := k) ht hx
  rwa [addr_add] at this
/-- a new variable, filled at once -/
theorem New.fill {P : Program} {w w1 : World} {zs : List Value} {e : TypeId} {r : Nat} (hn : New w (.cells ⟨zs⟩ e (0, 0)) r w1) {t : TypeId} {xs : List Value} (hv : ∀ v ∈ xs, v.oneCell' = true) (ht : aggT P t xs.length = true) (hl : xs.length = zs.length) :
    ∃ w2, Stores P t ⟨r, 0, none⟩ (.agg ⟨xs⟩) w1 w2 ∧ Blk w2 r e xs ∧ Ext w w2 := by
  obtain ⟨w2, st, hb, ch, sz⟩ := hn.blk.storeA0 (P := P) (t := t) ht hl hv
  exact ⟨w2, st, hb, hn.ext.chg ch (by have := hn.r_eq; simp; omega)⟩
def AllO (w : World) (B k : Nat) : List (List Value) → List (List D0) → List (List Nat) → Prop
  | [], [], [] => True
  | cs :: css, x :: l, f :: fs => cs.length = k ∧ Owns w B cs x f ∧ AllO w B k css l fs
  | _, _, _ => False
theorem AllO.ext {w w' : World} {B k : Nat} : ∀ {css : List (List Value)} {l : List (List D0)} {fs : List (List Nat)}, AllO w B k css l fs → Ext w w' → AllO w' B k css l fs
  | [], [], [], _, _ => trivial
  | _ :: _, _ :: _, _ :: _, h, he => ⟨h.1, h.2.1.ext he, AllO.ext h.2.2 he⟩
  | [], [], _ :: _, h, _ => h.elim
  | [], _ :: _, _, h, _ => h.elim
  | _ :: _, [], _, h, _ => h.elim
  | _ :: _, _ :: _, [], h, _ => h.elim
theorem AllO.chg {S : List Nat} {w w' : World} {B k : Nat} : ∀ {css : List (List Value)} {l : List (List D0)} {fs : List (List Nat)}, AllO w B k css l fs → Chg S w w' → (∀ x ∈ fs.flatten, x ∉ S) → AllO w' B k css l fs
  | [], [], [], _, _, _ => trivial
  | _ :: _, _ :: _, _ :: _, h, he, hS => ⟨h.1, h.2.1.chg he (fun x hx => hS x (by simp [hx])), AllO.chg h.2.2 he (fun x hx => hS x (by rw [List.flatten_cons]; exact List.mem_append_right _ hx))⟩
  | [], [], _ :: _, h, _, _ => h.elim
  | [], _ :: _, _, h, _, _ => h.elim
  | _ :: _, [], _, h, _, _ => h.elim
  | _ :: _, _ :: _, [], h, _, _ => h.elim
theorem AllO.mono {w : World} {B B' k : Nat} (hb : B' ≤ B) : ∀ {css : List (List Value)} {l : List (List D0)} {fs : List (List Nat)}, AllO w B k css l fs → AllO w B' k css l fs
  | [], [], [], _ => trivial
  | _ :: _, _ :: _, _ :: _, h => ⟨h.1, h.2.1.mono hb, AllO.mono hb h.2.2⟩
  | [], [], _ :: _, h => h.elim
  | [], _ :: _, _, h => h.elim
  | _ :: _, [], _, h => h.elim
  | _ :: _, _ :: _, [], h => h.elim
theorem AllO.lt {w : World} {B k : Nat} : ∀ {css : List (List Value)} {l : List (List D0)} {fs : List (List Nat)}, AllO w B k css l fs → ∀ x ∈ fs.flatten, B ≤ x ∧ x < w.heap.size
  | [], [], [], _, x, hx => by simp at hx
  | _ :: _, _ :: _, _ :: _, h, x, hx => by
    rw [List.flatten_cons, List.mem_append] at hx
    rcases hx with hx | hx
    · exact h.2.1.lt x hx
    · exact AllO.lt h.2.2 x hx
  | [], [], _ :: _, h, _, _ => h.elim
  | [], _ :: _, _, h, _, _ => h.elim
  | _ :: _, [], _, h, _, _ => h.elim
  | _ :: _, _ :: _, [], h, _, _ => h.elim
theorem AllO.len {w : World} {B k : Nat} : ∀ {css : List (List Value)} {l : List (List D0)} {fs : List (List Nat)}, AllO w B k css l fs → css.length = l.length ∧ css.flatten.length = l.length * k
  | [], [], [], _ => ⟨rfl, by simp⟩
  | cs :: css, x :: l, _ :: _, h => by
    have := AllO.len h.2.2
    refine ⟨by simp [this.1], ?_⟩
    rw [List.flatten_cons, List.length_append, this.2, h.1, List.length_cons, Nat.succ_mul, Nat.add_comm]
  | [], [], _ :: _, h => h.elim
  | [], _ :: _, _, h => h.elim
  | _ :: _, [], _, h => h.elim
  | _ :: _, _ :: _, [], h => h.elim
theorem AllO.cells1 {w : World} {B k : Nat} : ∀ {css : List (List Value)} {l : List (List D0)} {fs : List (List Nat)}, AllO w B k css l fs → ∀ v ∈ css.flatten, v.oneCell' = true
  | [], [], [], _, v, hv => by simp at hv
  | _ :: _, _ :: _, _ :: _, h, v, hv => by
    rw [List.flatten_cons, List.mem_append] at hv
    rcases hv with hv | hv
    · exact h.2.1.reps.cells1 v hv
    · exact AllO.cells1 h.2.2 v hv
  | [], [], _ :: _, h, _, _ => h.elim
  | [], _ :: _, _, h, _, _ => h.elim
  | _ :: _, [], _, h, _, _ => h.elim
  | _ :: _, _ :: _, [], h, _, _ => h.elim
theorem AllO.at {w : World} {B k : Nat} : ∀ {css : List (List Value)} {l : List (List D0)} {fs : List (List Nat)}, AllO w B k css l fs → ∀ i x, l[i]? = some x → ∃ cs, cs.length = k ∧ Reps w cs x ∧ (css.flatten.drop (i * k)).take k = cs
  | [], [], [], _, i, x, hx => by simp at hx
  | cs :: css, y :: l, _ :: _, h, i, x, hx => by
    cases i with
    | zero =>
      simp only [List.getElem?_cons_zero, Option.some.injEq] at hx
      subst hx
      refine ⟨cs, h.1, h.2.1.reps, ?_⟩
      rw [Nat.zero_mul, List.drop_zero, List.flatten_cons, ← h.1, List.take_left]
    | succ i =>
      simp only [List.getElem?_cons_succ] at hx
      obtain ⟨c, h1, h2, h3⟩ := AllO.at h.2.2 i x hx
      refine ⟨c, h1, h2, ?_⟩
      rw [List.flatten_cons, Nat.succ_mul, Nat.add_comm, ← List.drop_drop, ← h.1, List.drop_left, h.1]
      exact h3
  | [], [], _ :: _, h, _, _, _ => h.elim
  | [], _ :: _, _, h, _, _, _ => h.elim
  | _ :: _, [], _, h, _, _, _ => h.elim
  | _ :: _, _ :: _, [], h, _, _, _ => h.elim
/-- a slice of structs that is one's own, and the blocks that it takes -/
def OwnRows (w : World) (B : Nat) (e : TypeId) (k : Nat) (p : Option Addr) (n c : Nat) (l : List (List D0)) (f : List Nat) : Prop :=
  l.length = n ∧ ∃ css fs, AllO w B k css l fs ∧ Own w B e k p n c css.flatten ∧ f = (p.map (·.block)).toList ++ fs.flatten ∧ f.Nodup
theorem OwnRows.lt {w : World} {B : Nat} {e : TypeId} {k : Nat} {p : Option Addr} {n c : Nat} {l : List (List D0)} {f : List Nat} (h : OwnRows w B e k p n c l f) : ∀ x ∈ f, B ≤ x ∧ x < w.heap.size := by
  obtain ⟨hl, css, fs, ha, ho, rfl, _⟩ := h
  intro x hx
  rcases List.mem_append.1 hx with hx | hx
  · exact World.ownsRow.lt ho x (by cases p <;> simp_all [Value.ownBlock])
  · exact ha.lt x hx
theorem OwnRows.ext {w w' : World} {B : Nat} {e : TypeId} {k : Nat} {p : Option Addr} {n c : Nat} {l : List (List D0)} {f : List Nat} (h : OwnRows w B e k p n c l f) (he : Ext w w') : OwnRows w' B e k p n c l f := by
  obtain ⟨hl, css, fs, ha, ho, hf, hn⟩ := h
  exact ⟨hl, css, fs, ha.ext he, ho.ext he, hf, hn⟩
theorem OwnRows.mono {w : World} {B B' : Nat} {e : TypeId} {k : Nat} {p : Option Addr} {n c : Nat} {l : List (List D0)} {f : List Nat} (h : OwnRows w B e k p n c l f) (hb : B' ≤ B) : OwnRows w B' e k p n c l f := by
  obtain ⟨hl, css, fs, ha, ho, hf, hn⟩ := h
  exact ⟨hl, css, fs, ha.mono hb, ho.mono hb, hf, hn⟩
theorem OwnRows.chg {S : List Nat} {w w' : World} {B : Nat} {e : TypeId} {k : Nat} {p : Option Addr} {n c : Nat} {l : List (List D0)} {f : List Nat} (h : OwnRows w B e k p n c l f) (he : Chg S w w') (hS : ∀ x ∈ f, x ∉ S) : OwnRows w' B e k p n c l f := by
  obtain ⟨hl, css, fs, ha, ho, rfl, hn⟩ := h
  exact ⟨hl, css, fs, ha.chg he (fun x hx => hS x (List.mem_append_right _ hx)), ho.chg he (fun x hx => hS x (List.mem_append_left _ (by rw [hx]; simp))), rfl, hn⟩
theorem dec_no {p : Prop} [Decidable p] (h : ¬ p) : Value.bool false = Value.bool (decide p) := by simp [h]
theorem dec_yes {p : Prop} [Decidable p] (h : p) : Value.bool true = Value.bool (decide p) := by simp [h]
end Go.Proofs.YtpaekkcgphljoaaDoor.Sx

namespace Go.Proofs.YtpaekkcgphljoaaDoor
open Go Go.Proofs.YtpaekkcgphljoaaDoor.Sx
set_option linter.unusedVariables false
set_option linter.unusedSimpArgs false
theorem take_set {α : Type} (l : List α) (d v : α) (k : Nat) (hk : k < l.length) (n : Nat) (hn : 0 < n) (h : l[k]? = some v) :
    (l.take k ++ List.replicate n d).set k v = l.take (k + 1) ++ List.replicate (n - 1) d := by
  have hlen : (l.take k).length = k := by simp; omega
  rw [List.set_append_right _ _ (by omega), hlen, Nat.sub_self]
  obtain ⟨m, rfl⟩ : ∃ m, n = m + 1 := ⟨n - 1, by omega⟩
  rw [List.replicate_succ, List.set_cons_zero, List.take_add_one, h]
  simp
theorem laws_toIntS_c {w : World} {p : Option Addr} {n c : Nat} {zs : List Int} (h : IntsR w p n c zs) (hn : n ≤ 1048576) :
    Ret P n_laws_toIntS [.slice p n c] w fun v w' => ∃ r, v = .slice (some ⟨r, 0, none⟩) n n ∧ Own w' w.heap.size T_int 1 (some ⟨r, 0, none⟩) n n (zs.map (Value.int .i64)) ∧ Ext w w' := by
  refine laws_toIntS_ret ?_
  unfold laws_toIntS
  refine ⟨⟨by omega, by omega, by omega⟩, fun r w1 hnew => ?_⟩
  have hlen := h.1
  refine ⟨fun i wr => ∃ k : Nat, i = k ∧ k ≤ n ∧ Ext w wr ∧ Blk wr r T_int ((zs.map (Value.int .i64)).take k ++ List.replicate (n - k) (Value.int .i64 0)), fun i _ => n - i.toNat, ⟨0, rfl, by omega, hnew.ext, ?_⟩, ?_⟩
  · have := hnew.blk
    rw [zeroRow_int, Nat.mul_one] at this
    simpa using this
  · intro junk wr i ⟨k, hik, hk, hx, hb⟩
    subst hik
    refine ifD (fun hlt => ?_) (fun hge => ?_)
    · have hlt' : k < n := by omega
      obtain ⟨a, rfl, hl⟩ := (h.ext hx).at (P := P) (t := T_int) (by kernel_rfl) hlt'
      have hl2 : ((zs.map (Value.int .i64)).take k ++ List.replicate (n - k) (Value.int .i64 0)).length = n := by simp; omega
      obtain ⟨w2, hst, hb2, hc, hs⟩ := hb.store (P := P) (t := T_int) (k := k) (v := .int .i64 (zs[k]'(by omega))) (by kernel_rfl) (by omega) rfl
      refine ⟨⟨by omega, by omega⟩, zs[k]'(by omega), by simpa using hl, ⟨by omega, by omega⟩, w2, by simpa using hst, exW ⟨by omega, by omega⟩ ⟨⟨k + 1, by omega, by omega, hx.chg hc (by simp; have := hnew.r_eq; omega), ?_⟩, by simp; omega⟩⟩
      rw [take_set _ _ _ _ (by simp; omega) _ (by omega) (by simp [show k < zs.length by omega])] at hb2
      rwa [show n - (k + 1) = n - k - 1 by omega]
    · have hkn : k = n := by omega
      subst hkn
      refine ⟨r, rfl, ?_, hx⟩
      rw [Nat.sub_self, List.replicate_zero, List.append_nil, List.take_of_length_le (by simp; omega)] at hb
      exact Own.of_blk hb (by have := hnew.r_eq; omega) (by simp; omega) (by simp only [maxLen]; omega)
theorem laws_szIntS_c {w : World} {p : Option Addr} {n c : Nat} {left : Int} (h0 : 0 ≤ left) (h1 : left ≤ 1048576) (hn : n ≤ 9223372036854775807) :
    Ret P n_laws_szIntS [.slice p n c, .int .i64 left] w fun v w' => ∃ r : Int, v = .int .i64 r ∧ (0 ≤ r → r + n ≤ left) ∧ r ≤ 1048576 ∧ Ext w w' := by
  refine laws_szIntS_ret ?_
  unfold laws_szIntS
  refine exW ⟨by omega, by omega⟩ (ifD (fun h => ⟨_, rfl, by omega, by omega, Ext.refl _⟩) (fun h => ⟨_, rfl, by omega, by omega, Ext.refl _⟩))
theorem laws_eqIntS_c {w : World} {p q : Option Addr} {n c m d : Nat} {zs ys : List Int} (h : IntsR w p n c zs) (k : IntsR w q m d ys) :
    Ret P n_laws_eqIntS [.slice p n c, .slice q m d] w fun v w' => v = .bool (decide (zs = ys)) ∧ Ext w w' := by
  refine laws_eqIntS_ret ?_
  unfold laws_eqIntS
  have hn : n ≤ 9223372036854775807 := Nat.le_trans h.2.1 h.2.2.1
  have hz := h.1
  have hy := k.1
  refine ifD (fun hne => ⟨?_, Ext.refl _⟩) (fun heq => ?_)
  · have : zs ≠ ys := fun e => hne (by rw [← hz, ← hy, e])
    simp [this]
  · have hnm : n = m := by omega
    refine ⟨fun i wr => ∃ j : Nat, i = j ∧ j ≤ n ∧ Ext w wr ∧ zs.take j = ys.take j, fun i _ => n - i.toNat, ⟨0, rfl, by omega, Ext.refl _, by simp⟩, ?_⟩
    intro junk wr i ⟨j, hij, hj, hx, he⟩
    subst hij
    refine ifD (fun hlt => ?_) (fun hge => ⟨?_, hx⟩)
    · have hjn : j < n := by omega
      have hx' := hx.trans (Ext.drew wr)
      obtain ⟨a, hpa, _⟩ := (h.ext hx').at (P := P) (t := T_int) (by kernel_rfl) hjn
      obtain ⟨b, hqb, _⟩ := (k.ext hx').at (P := P) (t := T_int) (by kernel_rfl) (show j < m by omega)
      subst hpa
      subst hqb
      have l1 : ∀ w', Ext wr.drew w' → Loads P T_int (a.add ((j : Int).toNat * 1)) (.int .i64 (zs[j]'(by omega))) w' := fun w' hw => by
        obtain ⟨a', ha, hl⟩ := ((h.ext hx').ext hw).at (P := P) (t := T_int) (by kernel_rfl) hjn
        cases ha
        simpa using hl
      have l2 : ∀ w', Ext wr.drew w' → Loads P T_int (b.add ((j : Int).toNat * 1)) (.int .i64 (ys[j]'(by omega))) w' := fun w' hw => by
        obtain ⟨a', ha, hl⟩ := ((k.ext hx').ext hw).at (P := P) (t := T_int) (by kernel_rfl) (show j < m by omega)
        cases ha
        simpa using hl
      refine ⟨⟨by omega, by omega⟩, _, l1, ⟨by omega, by omega⟩, _, l2, ifD (fun hne => ⟨?_, hx'⟩) (fun heq2 => ?_)⟩
      · have : zs ≠ ys := fun e => hne (by subst e; rfl)
        simp [this]
      · refine exW ⟨by omega, by omega⟩ ⟨⟨j + 1, by omega, by omega, hx', ?_⟩, by simp; omega⟩
        have e2 : zs[j]'(by omega) = ys[j]'(by omega) := by simpa using heq2
        rw [List.take_add_one, List.take_add_one, he, List.getElem?_eq_getElem (by omega), List.getElem?_eq_getElem (by omega), e2]
    · have hjn : j = n := by omega
      subst hjn
      rw [List.take_of_length_le (by omega), List.take_of_length_le (by omega)] at he
      simp [he]
end Go.Proofs.YtpaekkcgphljoaaDoor

namespace Go.Proofs.YtpaekkcgphljoaaDoor
open Go Go.Proofs.YtpaekkcgphljoaaDoor.Sx
set_option linter.unusedVariables false
set_option linter.unusedSimpArgs false
theorem open_Signed {w : World} {vs : List Value} {ds : List D0} (h : Reps w vs ds) (hc : ds.map D0.code = [.bool, .ints]) :
    ∃ (a0 : Bool) (a1p : Option Addr) (a1n a1c : Nat) (a1z : List Int), vs = [.bool a0, .slice a1p a1n a1c] ∧ ds = [.bool a0, .ints a1z] ∧ IntsR w a1p a1n a1c a1z := by
  obtain ⟨b0, us, es, hv, hd, h2, hc2⟩ := h.bool hc
  subst hv; subst hd
  clear h hc
  have h := h2; have hc := hc2; clear h2 hc2
  obtain ⟨b1p, b1n, b1c, b1z, us, es, hv, hd, b1h, h2, hc2⟩ := h.ints hc
  subst hv; subst hd
  clear h hc
  have h := h2; have hc := hc2; clear h2 hc2
  obtain ⟨hv, hd⟩ := h.done hc
  subst hv; subst hd; clear h hc
  exact ⟨_, _, _, _, _, rfl, rfl, b1h⟩
theorem laws_szSigned_c {w : World} {vs : List Value} {ds : List D0} (h : Reps w vs ds) (hc : ds.map D0.code = [.bool, .ints]) (hok : ∀ d ∈ ds, d.ok) {left : Int} (h0 : 0 ≤ left) (h1 : left ≤ 1048576) :
    Ret P n_laws_szSigned [.agg ⟨vs⟩, .int .i64 left] w fun v w' => ∃ r : Int, v = .int .i64 r ∧ (0 ≤ r → r + bulks ds ≤ left) ∧ r ≤ 1048576 ∧ Ext w w' := by
  obtain ⟨a0, us, es, hv, hd, h2, hc2⟩ := h.bool hc
  subst hv; subst hd
  clear h hc
  have h := h2; have hc := hc2; clear h2 hc2
  obtain ⟨a1p, a1n, a1c, a1z, us, es, hv, hd, a1h, h2, hc2⟩ := h.ints hc
  subst hv; subst hd
  clear h hc
  have h := h2; have hc := hc2; clear h2 hc2
  obtain ⟨hv, hd⟩ := h.done hc
  subst hv; subst hd; clear h hc
  simp only [List.mem_cons, List.not_mem_nil, or_false, forall_eq_or_imp, forall_eq, D0.ok] at hok
  have a1l := a1h.1; have a1k := a1h.2.1; have a1m := a1h.2.2.1
  simp only [bulks, D0.bulk, List.map_cons, List.map_nil, List.sum_cons, List.sum_nil]
  refine laws_szSigned_ret ?_
  unfold laws_szSigned
  intro r w1 hn1
  have x := hn1.ext; have b0 := hn1.blk
  refine ⟨_, _, _, b0.load (by kernel_rfl) rfl, ?_⟩
  refine Ret.at (laws_szIntS_c (by omega) (by omega) (by omega)) ?_
  rintro v w2 ⟨k0, hv, hk0, hm0, y⟩
  subst hv
  have x := x.trans y; have b0 := b0.ext y
  refine ⟨_, rfl, ifD (fun hl => ⟨_, rfl, by omega, by omega, x⟩) (fun hl => ?_)⟩
  exact ⟨_, rfl, by omega, by omega, x⟩
theorem laws_toSigned_c {w : World} {vs : List Value} {ds : List D0} (h : Reps w vs ds) (hc : ds.map D0.code = [.bool, .ints]) (hb : bulks ds ≤ 1048576) :
    Ret P n_laws_toSigned [.agg ⟨vs⟩] w fun v w' => ∃ vs' f, v = .agg ⟨vs'⟩ ∧ Owns w' w.heap.size vs' ds f ∧ f.Nodup ∧ Ext w w' := by
  obtain ⟨a0, us, es, hv, hd, h2, hc2⟩ := h.bool hc
  subst hv; subst hd
  clear h hc
  have h := h2; have hc := hc2; clear h2 hc2
  obtain ⟨a1p, a1n, a1c, a1z, us, es, hv, hd, a1h, h2, hc2⟩ := h.ints hc
  subst hv; subst hd
  clear h hc
  have h := h2; have hc := hc2; clear h2 hc2
  obtain ⟨hv, hd⟩ := h.done hc
  subst hv; subst hd; clear h hc
  simp only [bulks, D0.bulk, List.map_cons, List.map_nil, List.sum_cons, List.sum_nil] at hb
  have a1l := a1h.1
  refine laws_toSigned_ret ?_
  unfold laws_toSigned
  intro r w1 hn1 r1 w2 hn2 r2 w3 hn3
  have x := (hn1.ext.trans hn2.ext).trans hn3.ext
  have b0 := (hn1.blk.ext hn2.ext).ext hn3.ext
  have b1 := hn2.blk.ext hn3.ext
  have b2 := hn3.blk
  have e1 := hn1.r_eq; have e2 := hn2.r_eq; have e3 := hn3.r_eq; have s1 := hn1.size; have s2 := hn2.size; have s3 := hn3.size
  obtain ⟨w4, st, b2', ch, sz⟩ := b2.store (P := P) (t := T_bool) (k := 0) (v := .bool a0) (by kernel_rfl) (by simp) rfl
  refine ⟨_, b0.load (by kernel_rfl) rfl, _, st, ?_⟩
  have x := x.chg ch (by simp; omega); have b0 := b0.chg ch (by simp; omega); have b1 := b1.chg ch (by simp; omega)
  have b2 : Blk w4 r2 _ [.bool a0, .slice none 0 0] := b2'
  clear b2'
  refine ⟨_, _, _, b0.load (by kernel_rfl) rfl, ?_⟩
  refine Ret.at (laws_toIntS_c (a1h.ext x) (by omega)) ?_
  rintro v w5 ⟨q0, hv, o0, y⟩
  subst hv
  refine ⟨_, _, _, rfl, ?_⟩
  have o0 := Owns.ints o0
  have l0 : ∀ k ∈ _, k < w5.heap.size := fun k hk => (o0.lt k hk).2
  have nd0 : ([q0] : List Nat).Nodup := by simp
  have y0 := y.le; have b0 := b0.ext y; have b1 := b1.ext y; have b2 := b2.ext y; have x := x.trans y
  obtain ⟨w6, st, b2', ch, sz⟩ := b2.store (P := P) (t := T_s_int) (k := 1) (v := .slice (some ⟨q0, 0, none⟩) a1n a1n) (by kernel_rfl) (by simp) rfl
  refine ⟨_, st, ?_⟩
  have x := x.chg ch (by simp; omega); have b0 := b0.chg ch (by simp; omega); have b1 := b1.chg ch (by simp; omega)
  have b2 : Blk w6 r2 _ [.bool a0, .slice (some ⟨q0, 0, none⟩) a1n a1n] := b2'
  clear b2'
  have o0 := o0.chg1 ch (by omega)
  refine ⟨_, _, _, _, b2.loadA0 (by kernel_rfl), ?_⟩
  have ow : Owns w6 w.heap.size [.bool a0, .slice (some ⟨q0, 0, none⟩) a1n a1n] [.bool a0, .ints a1z] ([] ++ [q0]) := Owns.append (Owns.bool _ _ a0) (o0.mono (by omega))
  obtain ⟨w7, st, b1', ch, sz⟩ := b1.storeA0 (P := P) (t := T_impl_Signed) (xs := [.bool a0, .slice (some ⟨q0, 0, none⟩) a1n a1n]) (by kernel_rfl) rfl ow.reps.cells1
  refine ⟨_, st, _, _, _, _, b1'.loadA0 (by kernel_rfl), [.bool a0, .slice (some ⟨q0, 0, none⟩) a1n a1n], ([] ++ [q0]), rfl, Owns.append (Owns.bool _ _ a0) ((o0.chg1 ch (by omega)).mono (by omega)), ?_, x.chg ch (by simp; omega)⟩
  try simp only [List.nil_append, List.append_nil]
  exact nd0
theorem laws_eqSigned_c {w : World} {xs ys : List Value} {dx dy : List D0} (h : Reps w xs dx) (k : Reps w ys dy) (hc : dx.map D0.code = [.bool, .ints]) (kc : dy.map D0.code = [.bool, .ints]) :
    Ret P n_laws_eqSigned [.agg ⟨xs⟩, .agg ⟨ys⟩] w fun v w' => v = .bool (decide (dx = dy)) ∧ Ext w w' := by
  obtain ⟨a0, us, es, hv, hd, h2, hc2⟩ := h.bool hc
  subst hv; subst hd
  clear h hc
  have h := h2; have hc := hc2; clear h2 hc2
  obtain ⟨a1p, a1n, a1c, a1z, us, es, hv, hd, a1h, h2, hc2⟩ := h.ints hc
  subst hv; subst hd
  clear h hc
  have h := h2; have hc := hc2; clear h2 hc2
  obtain ⟨hv, hd⟩ := h.done hc
  subst hv; subst hd; clear h hc
  obtain ⟨bb0, us, es, hv, hd, k2, kc2⟩ := k.bool kc
  subst hv; subst hd
  clear k kc
  have k := k2; have kc := kc2; clear k2 kc2
  obtain ⟨bb1p, bb1n, bb1c, bb1z, us, es, hv, hd, bb1h, k2, kc2⟩ := k.ints kc
  subst hv; subst hd
  clear k kc
  have k := k2; have kc := kc2; clear k2 kc2
  obtain ⟨hv, hd⟩ := k.done kc
  subst hv; subst hd; clear k kc
  refine laws_eqSigned_ret ?_
  unfold laws_eqSigned
  intro r w1 hn1 r1 w2 hn2
  have x := hn1.ext.trans hn2.ext
  have b0 := hn1.blk.ext hn2.ext
  have b1 := hn2.blk
  refine ⟨_, b0.load (by kernel_rfl) rfl, _, b1.load (by kernel_rfl) rfl, ?_⟩
  refine ifN (fun hne => ⟨dec_no (fun e => ?_), x⟩) (fun heq => ?_)
  · have e2 := congrArg (fun l : List D0 => (l.drop 0).take 1) e
    simp at e2; simp [e2] at hne
  have heq : a0 = bb0 := by simpa using heq
  subst heq
  refine ⟨_, _, _, b0.load (by kernel_rfl) rfl, _, _, _, b1.load (by kernel_rfl) rfl, ?_⟩
  refine Ret.at (laws_eqIntS_c (a1h.ext x) (bb1h.ext x)) ?_
  rintro v w3 ⟨hv, y⟩
  subst hv
  have x := x.trans y; have b0 := b0.ext y; have b1 := b1.ext y
  refine ⟨_, rfl, ifN (fun hne => ⟨dec_no (fun e => ?_), x⟩) (fun heq => ?_)⟩
  · have e2 := congrArg (fun l : List D0 => (l.drop 1).take 1) e
    have hne := of_decide_eq_false hne; simp at e2; exact hne e2
  have heq := of_decide_eq_true heq
  subst heq
  exact ⟨dec_yes rfl, x⟩
theorem open_Dec {w : World} {vs : List Value} {ds : List D0} (h : Reps w vs ds) (hc : ds.map D0.code = [.bool, .ints, .int]) :
    ∃ (a0 : Bool) (a1p : Option Addr) (a1n a1c : Nat) (a1z : List Int) (a2 : Int), vs = [.bool a0, .slice a1p a1n a1c, .int .i64 a2] ∧ ds = [.bool a0, .ints a1z, .int a2] ∧ IntsR w a1p a1n a1c a1z := by
  obtain ⟨b0, us, es, hv, hd, h2, hc2⟩ := h.bool hc
  subst hv; subst hd
  clear h hc
  have h := h2; have hc := hc2; clear h2 hc2
  obtain ⟨b1p, b1n, b1c, b1z, us, es, hv, hd, b1h, h2, hc2⟩ := h.ints hc
  subst hv; subst hd
  clear h hc
  have h := h2; have hc := hc2; clear h2 hc2
  obtain ⟨b2, us, es, hv, hd, h2, hc2⟩ := h.int hc
  subst hv; subst hd
  clear h hc
  have h := h2; have hc := hc2; clear h2 hc2
  obtain ⟨hv, hd⟩ := h.done hc
  subst hv; subst hd; clear h hc
  exact ⟨_, _, _, _, _, _, rfl, rfl, b1h⟩
theorem open_Money {w : World} {vs : List Value} {ds : List D0} (h : Reps w vs ds) (hc : ds.map D0.code = [.str, .bool, .ints]) :
    ∃ (a0 : ByteArray) (a1 : Bool) (a2p : Option Addr) (a2n a2c : Nat) (a2z : List Int), vs = [.string a0, .bool a1, .slice a2p a2n a2c] ∧ ds = [.str a0, .bool a1, .ints a2z] ∧ IntsR w a2p a2n a2c a2z := by
  obtain ⟨b0, us, es, hv, hd, h2, hc2⟩ := h.str hc
  subst hv; subst hd
  clear h hc
  have h := h2; have hc := hc2; clear h2 hc2
  obtain ⟨b1, us, es, hv, hd, h2, hc2⟩ := h.bool hc
  subst hv; subst hd
  clear h hc
  have h := h2; have hc := hc2; clear h2 hc2
  obtain ⟨b2p, b2n, b2c, b2z, us, es, hv, hd, b2h, h2, hc2⟩ := h.ints hc
  subst hv; subst hd
  clear h hc
  have h := h2; have hc := hc2; clear h2 hc2
  obtain ⟨hv, hd⟩ := h.done hc
  subst hv; subst hd; clear h hc
  exact ⟨_, _, _, _, _, _, rfl, rfl, b2h⟩
theorem laws_szMoney_c {w : World} {vs : List Value} {ds : List D0} (h : Reps w vs ds) (hc : ds.map D0.code = [.str, .bool, .ints]) (hok : ∀ d ∈ ds, d.ok) {left : Int} (h0 : 0 ≤ left) (h1 : left ≤ 1048576) :
    Ret P n_laws_szMoney [.agg ⟨vs⟩, .int .i64 left] w fun v w' => ∃ r : Int, v = .int .i64 r ∧ (0 ≤ r → r + bulks ds ≤ left) ∧ r ≤ 1048576 ∧ Ext w w' := by
  obtain ⟨a0, us, es, hv, hd, h2, hc2⟩ := h.str hc
  subst hv; subst hd
  clear h hc
  have h := h2; have hc := hc2; clear h2 hc2
  obtain ⟨a1, us, es, hv, hd, h2, hc2⟩ := h.bool hc
  subst hv; subst hd
  clear h hc
  have h := h2; have hc := hc2; clear h2 hc2
  obtain ⟨a2p, a2n, a2c, a2z, us, es, hv, hd, a2h, h2, hc2⟩ := h.ints hc
  subst hv; subst hd
  clear h hc
  have h := h2; have hc := hc2; clear h2 hc2
  obtain ⟨hv, hd⟩ := h.done hc
  subst hv; subst hd; clear h hc
  simp only [List.mem_cons, List.not_mem_nil, or_false, forall_eq_or_imp, forall_eq, D0.ok] at hok
  have a2l := a2h.1; have a2k := a2h.2.1; have a2m := a2h.2.2.1
  simp only [bulks, D0.bulk, List.map_cons, List.map_nil, List.sum_cons, List.sum_nil]
  refine laws_szMoney_ret ?_
  unfold laws_szMoney
  intro r w1 hn1
  have x := hn1.ext; have b0 := hn1.blk
  refine ⟨_, b0.load (by kernel_rfl) rfl, exW ⟨by omega, by omega⟩ (ifD (fun hl => ⟨_, rfl, by omega, by omega, x⟩) (fun hl => ?_))⟩
  have hr : Reps w [.bool a1, .slice a2p a2n a2c] [.bool a1, .ints a2z] := ⟨rfl, ⟨⟨_, _, _, rfl, a2h⟩, trivial⟩⟩
  refine ⟨_, _, _, _, b0.loadA (xs := [.bool a1, .slice a2p a2n a2c]) (by kernel_rfl) rfl, ?_⟩
  refine Ret.at (laws_szSigned_c (hr.ext x) rfl (by simp only [List.mem_cons, List.not_mem_nil, or_false, forall_eq_or_imp, forall_eq, D0.ok]; simp only [hok, and_self]) (by omega) (by omega)) ?_
  rintro v w2 ⟨k0, hv, hk0, hm0, y⟩
  simp only [bulks, D0.bulk, List.map_cons, List.map_nil, List.sum_cons, List.sum_nil] at hk0
  subst hv
  have x := x.trans y; have b0 := b0.ext y
  refine ⟨_, rfl, ifD (fun hl => ⟨_, rfl, by omega, by omega, x⟩) (fun hl => ?_)⟩
  exact ⟨_, rfl, by omega, by omega, x⟩
theorem laws_toMoney_c {w : World} {vs : List Value} {ds : List D0} (h : Reps w vs ds) (hc : ds.map D0.code = [.str, .bool, .ints]) (hb : bulks ds ≤ 1048576) :
    Ret P n_laws_toMoney [.agg ⟨vs⟩] w fun v w' => ∃ vs' f, v = .agg ⟨vs'⟩ ∧ Owns w' w.heap.size vs' ds f ∧ f.Nodup ∧ Ext w w' := by
  obtain ⟨a0, us, es, hv, hd, h2, hc2⟩ := h.str hc
  subst hv; subst hd
  clear h hc
  have h := h2; have hc := hc2; clear h2 hc2
  obtain ⟨a1, us, es, hv, hd, h2, hc2⟩ := h.bool hc
  subst hv; subst hd
  clear h hc
  have h := h2; have hc := hc2; clear h2 hc2
  obtain ⟨a2p, a2n, a2c, a2z, us, es, hv, hd, a2h, h2, hc2⟩ := h.ints hc
  subst hv; subst hd
  clear h hc
  have h := h2; have hc := hc2; clear h2 hc2
  obtain ⟨hv, hd⟩ := h.done hc
  subst hv; subst hd; clear h hc
  simp only [bulks, D0.bulk, List.map_cons, List.map_nil, List.sum_cons, List.sum_nil] at hb
  have a2l := a2h.1
  refine laws_toMoney_ret ?_
  unfold laws_toMoney
  intro r w1 hn1 r1 w2 hn2 r2 w3 hn3
  have x := (hn1.ext.trans hn2.ext).trans hn3.ext
  have b0 := (hn1.blk.ext hn2.ext).ext hn3.ext
  have b1 := hn2.blk.ext hn3.ext
  have b2 := hn3.blk
  have e1 := hn1.r_eq; have e2 := hn2.r_eq; have e3 := hn3.r_eq; have s1 := hn1.size; have s2 := hn2.size; have s3 := hn3.size
  obtain ⟨w4, st, b2', ch, sz⟩ := b2.store (P := P) (t := T_string) (k := 0) (v := .string a0) (by kernel_rfl) (by simp) rfl
  refine ⟨_, b0.load (by kernel_rfl) rfl, _, st, ?_⟩
  have x := x.chg ch (by simp; omega); have b0 := b0.chg ch (by simp; omega); have b1 := b1.chg ch (by simp; omega)
  have b2 : Blk w4 r2 _ [.string a0, .bool false, .slice none 0 0] := b2'
  clear b2'
  have hr : Reps w [.bool a1, .slice a2p a2n a2c] [.bool a1, .ints a2z] := ⟨rfl, ⟨⟨_, _, _, rfl, a2h⟩, trivial⟩⟩
  refine ⟨_, _, _, _, b0.loadA (xs := [.bool a1, .slice a2p a2n a2c]) (by kernel_rfl) rfl, ?_⟩
  refine Ret.at (laws_toSigned_c (hr.ext x) rfl (by simp only [bulks, D0.bulk, List.map_cons, List.map_nil, List.sum_cons, List.sum_nil]; omega)) ?_
  rintro v w5 ⟨us0, f0, hv, o0, nd0, y⟩
  subst hv
  have hq := o0.reps; have hqc : ([.bool a1, .ints a2z] : List D0).map D0.code = [.bool, .ints] := rfl
  obtain ⟨q00, us, es, hv, hd, hq2, hqc2⟩ := hq.bool hqc
  subst hv; cases hd; clear hq hqc; have hq := hq2; have hqc := hqc2; clear hq2 hqc2
  obtain ⟨q01p, q01n, q01c, q01z, us, es, hv, hd, q01h, hq2, hqc2⟩ := hq.ints hqc
  subst hv; cases hd; clear hq hqc; have hq := hq2; have hqc := hqc2; clear hq2 hqc2
  obtain ⟨hv, _⟩ := hq.done hqc; subst hv; clear hq hqc
  refine ⟨_, _, _, _, rfl, ?_⟩
  have l0 : ∀ k ∈ _, k < w5.heap.size := fun k hk => (o0.lt k hk).2
  have y0 := y.le; have b0 := b0.ext y; have b1 := b1.ext y; have b2 := b2.ext y; have x := x.trans y
  obtain ⟨w6, st, b2', ch, sz⟩ := b2.storeA (P := P) (t := T_impl_Signed) (k := 1) (xs := [.bool a1, .slice q01p q01n q01c]) (by kernel_rfl) (by simp) o0.reps.cells1
  refine ⟨_, st, ?_⟩
  have x := x.chg ch (by simp; omega); have b0 := b0.chg ch (by simp; omega); have b1 := b1.chg ch (by simp; omega)
  have b2 : Blk w6 r2 _ [.string a0, .bool a1, .slice q01p q01n q01c] := b2'
  clear b2'
  have o0 := o0.chg1 ch (by omega)
  refine ⟨_, _, _, _, _, b2.loadA0 (by kernel_rfl), ?_⟩
  have ow : Owns w6 w.heap.size [.string a0, .bool a1, .slice q01p q01n q01c] [.str a0, .bool a1, .ints a2z] ([] ++ f0) := Owns.append (Owns.str _ _ a0) (o0.mono (by omega))
  obtain ⟨w7, st, b1', ch, sz⟩ := b1.storeA0 (P := P) (t := T_impl_Money) (xs := [.string a0, .bool a1, .slice q01p q01n q01c]) (by kernel_rfl) rfl ow.reps.cells1
  refine ⟨_, st, _, _, _, _, _, b1'.loadA0 (by kernel_rfl), [.string a0, .bool a1, .slice q01p q01n q01c], ([] ++ f0), rfl, Owns.append (Owns.str _ _ a0) ((o0.chg1 ch (by omega)).mono (by omega)), ?_, x.chg ch (by simp; omega)⟩
  try simp only [List.nil_append, List.append_nil]
  exact nd0
theorem laws_eqMoney_c {w : World} {xs ys : List Value} {dx dy : List D0} (h : Reps w xs dx) (k : Reps w ys dy) (hc : dx.map D0.code = [.str, .bool, .ints]) (kc : dy.map D0.code = [.str, .bool, .ints]) :
    Ret P n_laws_eqMoney [.agg ⟨xs⟩, .agg ⟨ys⟩] w fun v w' => v = .bool (decide (dx = dy)) ∧ Ext w w' := by
  obtain ⟨a0, us, es, hv, hd, h2, hc2⟩ := h.str hc
  subst hv; subst hd
  clear h hc
  have h := h2; have hc := hc2; clear h2 hc2
  obtain ⟨a1, us, es, hv, hd, h2, hc2⟩ := h.bool hc
  subst hv; subst hd
  clear h hc
  have h := h2; have hc := hc2; clear h2 hc2
  obtain ⟨a2p, a2n, a2c, a2z, us, es, hv, hd, a2h, h2, hc2⟩ := h.ints hc
  subst hv; subst hd
  clear h hc
  have h := h2; have hc := hc2; clear h2 hc2
  obtain ⟨hv, hd⟩ := h.done hc
  subst hv; subst hd; clear h hc
  obtain ⟨bb0, us, es, hv, hd, k2, kc2⟩ := k.str kc
  subst hv; subst hd
  clear k kc
  have k := k2; have kc := kc2; clear k2 kc2
  obtain ⟨bb1, us, es, hv, hd, k2, kc2⟩ := k.bool kc
  subst hv; subst hd
  clear k kc
  have k := k2; have kc := kc2; clear k2 kc2
  obtain ⟨bb2p, bb2n, bb2c, bb2z, us, es, hv, hd, bb2h, k2, kc2⟩ := k.ints kc
  subst hv; subst hd
  clear k kc
  have k := k2; have kc := kc2; clear k2 kc2
  obtain ⟨hv, hd⟩ := k.done kc
  subst hv; subst hd; clear k kc
  refine laws_eqMoney_ret ?_
  unfold laws_eqMoney
  intro r w1 hn1 r1 w2 hn2
  have x := hn1.ext.trans hn2.ext
  have b0 := hn1.blk.ext hn2.ext
  have b1 := hn2.blk
  refine ⟨_, b0.load (by kernel_rfl) rfl, _, b1.load (by kernel_rfl) rfl, ?_⟩
  refine ifD (fun hne => ⟨dec_no (fun e => ?_), x⟩) (fun heq => ?_)
  · have e2 := congrArg (fun l : List D0 => (l.drop 0).take 1) e
    simp at e2; exact hne e2
  have heq : a0 = bb0 := by simpa using heq
  subst heq
  have ha : Reps w [.bool a1, .slice a2p a2n a2c] [.bool a1, .ints a2z] := ⟨rfl, ⟨⟨_, _, _, rfl, a2h⟩, trivial⟩⟩
  have hb : Reps w [.bool bb1, .slice bb2p bb2n bb2c] [.bool bb1, .ints bb2z] := ⟨rfl, ⟨⟨_, _, _, rfl, bb2h⟩, trivial⟩⟩
  refine ⟨_, _, _, _, b0.loadA (xs := [.bool a1, .slice a2p a2n a2c]) (by kernel_rfl) rfl, _, _, _, _, b1.loadA (xs := [.bool bb1, .slice bb2p bb2n bb2c]) (by kernel_rfl) rfl, ?_⟩
  refine Ret.at (laws_eqSigned_c (ha.ext x) (hb.ext x) rfl rfl) ?_
  rintro v w3 ⟨hv, y⟩
  subst hv
  have x := x.trans y; have b0 := b0.ext y; have b1 := b1.ext y
  refine ⟨_, rfl, ifN (fun hne => ⟨dec_no (fun e => ?_), x⟩) (fun heq => ?_)⟩
  · have e2 := congrArg (fun l : List D0 => (l.drop 1).take 2) e
    exact of_decide_eq_false hne e2
  have heq := of_decide_eq_true heq
  cases heq
  exact ⟨dec_yes rfl, x⟩
theorem open_Row {w : World} {vs : List Value} {ds : List D0} (h : Reps w vs ds) (hc : ds.map D0.code = [.str, .bool, .ints, .str, .bool, .ints, .str, .bool, .ints]) :
    ∃ (a0 : ByteArray) (a1 : Bool) (a2p : Option Addr) (a2n a2c : Nat) (a2z : List Int) (a3 : ByteArray) (a4 : Bool) (a5p : Option Addr) (a5n a5c : Nat) (a5z : List Int) (a6 : ByteArray) (a7 : Bool) (a8p : Option Addr) (a8n a8c : Nat) (a8z : List Int), vs = [.string a0, .bool a1, .slice a2p a2n a2c, .string a3, .bool a4, .slice a5p a5n a5c, .string a6, .bool a7, .slice a8p a8n a8c] ∧ ds = [.str a0, .bool a1, .ints a2z, .str a3, .bool a4, .ints a5z, .str a6, .bool a7, .ints a8z] ∧ IntsR w a2p a2n a2c a2z ∧ IntsR w a5p a5n a5c a5z ∧ IntsR w a8p a8n a8c a8z := by
  obtain ⟨b0, us, es, hv, hd, h2, hc2⟩ := h.str hc
  subst hv; subst hd
  clear h hc
  have h := h2; have hc := hc2; clear h2 hc2
  obtain ⟨b1, us, es, hv, hd, h2, hc2⟩ := h.bool hc
  subst hv; subst hd
  clear h hc
  have h := h2; have hc := hc2; clear h2 hc2
  obtain ⟨b2p, b2n, b2c, b2z, us, es, hv, hd, b2h, h2, hc2⟩ := h.ints hc
  subst hv; subst hd
  clear h hc
  have h := h2; have hc := hc2; clear h2 hc2
  obtain ⟨b3, us, es, hv, hd, h2, hc2⟩ := h.str hc
  subst hv; subst hd
  clear h hc
  have h := h2; have hc := hc2; clear h2 hc2
  obtain ⟨b4, us, es, hv, hd, h2, hc2⟩ := h.bool hc
  subst hv; subst hd
  clear h hc
  have h := h2; have hc := hc2; clear h2 hc2
  obtain ⟨b5p, b5n, b5c, b5z, us, es, hv, hd, b5h, h2, hc2⟩ := h.ints hc
  subst hv; subst hd
  clear h hc
  have h := h2; have hc := hc2; clear h2 hc2
  obtain ⟨b6, us, es, hv, hd, h2, hc2⟩ := h.str hc
  subst hv; subst hd
  clear h hc
  have h := h2; have hc := hc2; clear h2 hc2
  obtain ⟨b7, us, es, hv, hd, h2, hc2⟩ := h.bool hc
  subst hv; subst hd
  clear h hc
  have h := h2; have hc := hc2; clear h2 hc2
  obtain ⟨b8p, b8n, b8c, b8z, us, es, hv, hd, b8h, h2, hc2⟩ := h.ints hc
  subst hv; subst hd
  clear h hc
  have h := h2; have hc := hc2; clear h2 hc2
  obtain ⟨hv, hd⟩ := h.done hc
  subst hv; subst hd; clear h hc
  exact ⟨_, _, _, _, _, _, _, _, _, _, _, _, _, _, _, _, _, _, rfl, rfl, b2h, b5h, b8h⟩
theorem laws_szRow_c {w : World} {vs : List Value} {ds : List D0} (h : Reps w vs ds) (hc : ds.map D0.code = [.str, .bool, .ints, .str, .bool, .ints, .str, .bool, .ints]) (hok : ∀ d ∈ ds, d.ok) {left : Int} (h0 : 0 ≤ left) (h1 : left ≤ 1048576) :
    Ret P n_laws_szRow [.agg ⟨vs⟩, .int .i64 left] w fun v w' => ∃ r : Int, v = .int .i64 r ∧ (0 ≤ r → r + bulks ds ≤ left) ∧ r ≤ 1048576 ∧ Ext w w' := by
  obtain ⟨a0, us, es, hv, hd, h2, hc2⟩ := h.str hc
  subst hv; subst hd
  clear h hc
  have h := h2; have hc := hc2; clear h2 hc2
  obtain ⟨a1, us, es, hv, hd, h2, hc2⟩ := h.bool hc
  subst hv; subst hd
  clear h hc
  have h := h2; have hc := hc2; clear h2 hc2
  obtain ⟨a2p, a2n, a2c, a2z, us, es, hv, hd, a2h, h2, hc2⟩ := h.ints hc
  subst hv; subst hd
  clear h hc
  have h := h2; have hc := hc2; clear h2 hc2
  obtain ⟨a3, us, es, hv, hd, h2, hc2⟩ := h.str hc
  subst hv; subst hd
  clear h hc
  have h := h2; have hc := hc2; clear h2 hc2
  obtain ⟨a4, us, es, hv, hd, h2, hc2⟩ := h.bool hc
  subst hv; subst hd
  clear h hc
  have h := h2; have hc := hc2; clear h2 hc2
  obtain ⟨a5p, a5n, a5c, a5z, us, es, hv, hd, a5h, h2, hc2⟩ := h.ints hc
  subst hv; subst hd
  clear h hc
  have h := h2; have hc := hc2; clear h2 hc2
  obtain ⟨a6, us, es, hv, hd, h2, hc2⟩ := h.str hc
  subst hv; subst hd
  clear h hc
  have h := h2; have hc := hc2; clear h2 hc2
  obtain ⟨a7, us, es, hv, hd, h2, hc2⟩ := h.bool hc
  subst hv; subst hd
  clear h hc
  have h := h2; have hc := hc2; clear h2 hc2
  obtain ⟨a8p, a8n, a8c, a8z, us, es, hv, hd, a8h, h2, hc2⟩ := h.ints hc
  subst hv; subst hd
  clear h hc
  have h := h2; have hc := hc2; clear h2 hc2
  obtain ⟨hv, hd⟩ := h.done hc
  subst hv; subst hd; clear h hc
  simp only [List.mem_cons, List.not_mem_nil, or_false, forall_eq_or_imp, forall_eq, D0.ok] at hok
  have a2l := a2h.1; have a2k := a2h.2.1; have a2m := a2h.2.2.1
  have a5l := a5h.1; have a5k := a5h.2.1; have a5m := a5h.2.2.1
  have a8l := a8h.1; have a8k := a8h.2.1; have a8m := a8h.2.2.1
  simp only [bulks, D0.bulk, List.map_cons, List.map_nil, List.sum_cons, List.sum_nil]
  refine laws_szRow_ret ?_
  unfold laws_szRow
  intro r w1 hn1
  have x := hn1.ext; have b0 := hn1.blk
  have hr : Reps w [.string a0, .bool a1, .slice a2p a2n a2c] [.str a0, .bool a1, .ints a2z] := ⟨rfl, ⟨rfl, ⟨⟨_, _, _, rfl, a2h⟩, trivial⟩⟩⟩
  refine ⟨_, _, _, _, _, b0.loadA (xs := [.string a0, .bool a1, .slice a2p a2n a2c]) (by kernel_rfl) rfl, ?_⟩
  refine Ret.at (laws_szMoney_c (hr.ext x) rfl (by simp only [List.mem_cons, List.not_mem_nil, or_false, forall_eq_or_imp, forall_eq, D0.ok]; simp only [hok, and_self]) (by omega) (by omega)) ?_
  rintro v w2 ⟨k0, hv, hk0, hm0, y⟩
  simp only [bulks, D0.bulk, List.map_cons, List.map_nil, List.sum_cons, List.sum_nil] at hk0
  subst hv
  have x := x.trans y; have b0 := b0.ext y
  refine ⟨_, rfl, ifD (fun hl => ⟨_, rfl, by omega, by omega, x⟩) (fun hl => ?_)⟩
  have hr : Reps w [.string a3, .bool a4, .slice a5p a5n a5c] [.str a3, .bool a4, .ints a5z] := ⟨rfl, ⟨rfl, ⟨⟨_, _, _, rfl, a5h⟩, trivial⟩⟩⟩
  refine ⟨_, _, _, _, _, b0.loadA (xs := [.string a3, .bool a4, .slice a5p a5n a5c]) (by kernel_rfl) rfl, ?_⟩
  refine Ret.at (laws_szMoney_c (hr.ext x) rfl (by simp only [List.mem_cons, List.not_mem_nil, or_false, forall_eq_or_imp, forall_eq, D0.ok]; simp only [hok, and_self]) (by omega) (by omega)) ?_
  rintro v w3 ⟨k1, hv, hk1, hm1, y⟩
  simp only [bulks, D0.bulk, List.map_cons, List.map_nil, List.sum_cons, List.sum_nil] at hk1
  subst hv
  have x := x.trans y; have b0 := b0.ext y
  refine ⟨_, rfl, ifD (fun hl => ⟨_, rfl, by omega, by omega, x⟩) (fun hl => ?_)⟩
  have hr : Reps w [.string a6, .bool a7, .slice a8p a8n a8c] [.str a6, .bool a7, .ints a8z] := ⟨rfl, ⟨rfl, ⟨⟨_, _, _, rfl, a8h⟩, trivial⟩⟩⟩
  refine ⟨_, _, _, _, _, b0.loadA (xs := [.string a6, .bool a7, .slice a8p a8n a8c]) (by kernel_rfl) rfl, ?_⟩
  refine Ret.at (laws_szMoney_c (hr.ext x) rfl (by simp only [List.mem_cons, List.not_mem_nil, or_false, forall_eq_or_imp, forall_eq, D0.ok]; simp only [hok, and_self]) (by omega) (by omega)) ?_
  rintro v w4 ⟨k2, hv, hk2, hm2, y⟩
  simp only [bulks, D0.bulk, List.map_cons, List.map_nil, List.sum_cons, List.sum_nil] at hk2
  subst hv
  have x := x.trans y; have b0 := b0.ext y
  refine ⟨_, rfl, ifD (fun hl => ⟨_, rfl, by omega, by omega, x⟩) (fun hl => ?_)⟩
  exact ⟨_, rfl, by omega, by omega, x⟩
theorem laws_toRow_c {w : World} {vs : List Value} {ds : List D0} (h : Reps w vs ds) (hc : ds.map D0.code = [.str, .bool, .ints, .str, .bool, .ints, .str, .bool, .ints]) (hb : bulks ds ≤ 1048576) :
    Ret P n_laws_toRow [.agg ⟨vs⟩] w fun v w' => ∃ vs' f, v = .agg ⟨vs'⟩ ∧ Owns w' w.heap.size vs' ds f ∧ f.Nodup ∧ Ext w w' := by
  obtain ⟨a0, us, es, hv, hd, h2, hc2⟩ := h.str hc
  subst hv; subst hd
  clear h hc
  have h := h2; have hc := hc2; clear h2 hc2
  obtain ⟨a1, us, es, hv, hd, h2, hc2⟩ := h.bool hc
  subst hv; subst hd
  clear h hc
  have h := h2; have hc := hc2; clear h2 hc2
  obtain ⟨a2p, a2n, a2c, a2z, us, es, hv, hd, a2h, h2, hc2⟩ := h.ints hc
  subst hv; subst hd
  clear h hc
  have h := h2; have hc := hc2; clear h2 hc2
  obtain ⟨a3, us, es, hv, hd, h2, hc2⟩ := h.str hc
  subst hv; subst hd
  clear h hc
  have h := h2; have hc := hc2; clear h2 hc2
  obtain ⟨a4, us, es, hv, hd, h2, hc2⟩ := h.bool hc
  subst hv; subst hd
  clear h hc
  have h := h2; have hc := hc2; clear h2 hc2
  obtain ⟨a5p, a5n, a5c, a5z, us, es, hv, hd, a5h, h2, hc2⟩ := h.ints hc
  subst hv; subst hd
  clear h hc
  have h := h2; have hc := hc2; clear h2 hc2
  obtain ⟨a6, us, es, hv, hd, h2, hc2⟩ := h.str hc
  subst hv; subst hd
  clear h hc
  have h := h2; have hc := hc2; clear h2 hc2
  obtain ⟨a7, us, es, hv, hd, h2, hc2⟩ := h.bool hc
  subst hv; subst hd
  clear h hc
  have h := h2; have hc := hc2; clear h2 hc2
  obtain ⟨a8p, a8n, a8c, a8z, us, es, hv, hd, a8h, h2, hc2⟩ := h.ints hc
  subst hv; subst hd
  clear h hc
  have h := h2; have hc := hc2; clear h2 hc2
  obtain ⟨hv, hd⟩ := h.done hc
  subst hv; subst hd; clear h hc
  simp only [bulks, D0.bulk, List.map_cons, List.map_nil, List.sum_cons, List.sum_nil] at hb
  have a2l := a2h.1
  have a5l := a5h.1
  have a8l := a8h.1
  refine laws_toRow_ret ?_
  unfold laws_toRow
  intro r w1 hn1 r1 w2 hn2 r2 w3 hn3
  have x := (hn1.ext.trans hn2.ext).trans hn3.ext
  have b0 := (hn1.blk.ext hn2.ext).ext hn3.ext
  have b1 := hn2.blk.ext hn3.ext
  have b2 := hn3.blk
  have e1 := hn1.r_eq; have e2 := hn2.r_eq; have e3 := hn3.r_eq; have s1 := hn1.size; have s2 := hn2.size; have s3 := hn3.size
  have hr : Reps w [.string a0, .bool a1, .slice a2p a2n a2c] [.str a0, .bool a1, .ints a2z] := ⟨rfl, ⟨rfl, ⟨⟨_, _, _, rfl, a2h⟩, trivial⟩⟩⟩
  refine ⟨_, _, _, _, _, b0.loadA (xs := [.string a0, .bool a1, .slice a2p a2n a2c]) (by kernel_rfl) rfl, ?_⟩
  refine Ret.at (laws_toMoney_c (hr.ext x) rfl (by simp only [bulks, D0.bulk, List.map_cons, List.map_nil, List.sum_cons, List.sum_nil]; omega)) ?_
  rintro v w4 ⟨us0, f0, hv, o0, nd0, y⟩
  subst hv
  have hq := o0.reps; have hqc : ([.str a0, .bool a1, .ints a2z] : List D0).map D0.code = [.str, .bool, .ints] := rfl
  obtain ⟨q00, us, es, hv, hd, hq2, hqc2⟩ := hq.str hqc
  subst hv; cases hd; clear hq hqc; have hq := hq2; have hqc := hqc2; clear hq2 hqc2
  obtain ⟨q01, us, es, hv, hd, hq2, hqc2⟩ := hq.bool hqc
  subst hv; cases hd; clear hq hqc; have hq := hq2; have hqc := hqc2; clear hq2 hqc2
  obtain ⟨q02p, q02n, q02c, q02z, us, es, hv, hd, q02h, hq2, hqc2⟩ := hq.ints hqc
  subst hv; cases hd; clear hq hqc; have hq := hq2; have hqc := hqc2; clear hq2 hqc2
  obtain ⟨hv, _⟩ := hq.done hqc; subst hv; clear hq hqc
  refine ⟨_, _, _, _, _, rfl, ?_⟩
  have l0 : ∀ k ∈ _, k < w4.heap.size := fun k hk => (o0.lt k hk).2
  have y0 := y.le; have b0 := b0.ext y; have b1 := b1.ext y; have b2 := b2.ext y; have x := x.trans y
  obtain ⟨w5, st, b2', ch, sz⟩ := b2.storeA (P := P) (t := T_impl_Money) (k := 0) (xs := [.string a0, .bool a1, .slice q02p q02n q02c]) (by kernel_rfl) (by simp) o0.reps.cells1
  refine ⟨_, st, ?_⟩
  have x := x.chg ch (by simp; omega); have b0 := b0.chg ch (by simp; omega); have b1 := b1.chg ch (by simp; omega)
  have b2 : Blk w5 r2 _ [.string a0, .bool a1, .slice q02p q02n q02c, .string ByteArray.empty, .bool false, .slice none 0 0, .string ByteArray.empty, .bool false, .slice none 0 0] := b2'
  clear b2'
  have o0 := o0.chg1 ch (by omega)
  have hr : Reps w [.string a3, .bool a4, .slice a5p a5n a5c] [.str a3, .bool a4, .ints a5z] := ⟨rfl, ⟨rfl, ⟨⟨_, _, _, rfl, a5h⟩, trivial⟩⟩⟩
  refine ⟨_, _, _, _, _, b0.loadA (xs := [.string a3, .bool a4, .slice a5p a5n a5c]) (by kernel_rfl) rfl, ?_⟩
  refine Ret.at (laws_toMoney_c (hr.ext x) rfl (by simp only [bulks, D0.bulk, List.map_cons, List.map_nil, List.sum_cons, List.sum_nil]; omega)) ?_
  rintro v w6 ⟨us1, f1, hv, o1, nd1, y⟩
  subst hv
  have hq := o1.reps; have hqc : ([.str a3, .bool a4, .ints a5z] : List D0).map D0.code = [.str, .bool, .ints] := rfl
  obtain ⟨q10, us, es, hv, hd, hq2, hqc2⟩ := hq.str hqc
  subst hv; cases hd; clear hq hqc; have hq := hq2; have hqc := hqc2; clear hq2 hqc2
  obtain ⟨q11, us, es, hv, hd, hq2, hqc2⟩ := hq.bool hqc
  subst hv; cases hd; clear hq hqc; have hq := hq2; have hqc := hqc2; clear hq2 hqc2
  obtain ⟨q12p, q12n, q12c, q12z, us, es, hv, hd, q12h, hq2, hqc2⟩ := hq.ints hqc
  subst hv; cases hd; clear hq hqc; have hq := hq2; have hqc := hqc2; clear hq2 hqc2
  obtain ⟨hv, _⟩ := hq.done hqc; subst hv; clear hq hqc
  refine ⟨_, _, _, _, _, rfl, ?_⟩
  have l1 : ∀ k ∈ _, k < w6.heap.size := fun k hk => (o1.lt k hk).2
  have y1 := y.le; have b0 := b0.ext y; have b1 := b1.ext y; have b2 := b2.ext y; have x := x.trans y
  have o0 := o0.ext y
  obtain ⟨w7, st, b2', ch, sz⟩ := b2.storeA (P := P) (t := T_impl_Money) (k := 3) (xs := [.string a3, .bool a4, .slice q12p q12n q12c]) (by kernel_rfl) (by simp) o1.reps.cells1
  refine ⟨_, st, ?_⟩
  have x := x.chg ch (by simp; omega); have b0 := b0.chg ch (by simp; omega); have b1 := b1.chg ch (by simp; omega)
  have b2 : Blk w7 r2 _ [.string a0, .bool a1, .slice q02p q02n q02c, .string a3, .bool a4, .slice q12p q12n q12c, .string ByteArray.empty, .bool false, .slice none 0 0] := b2'
  clear b2'
  have o0 := o0.chg1 ch (by omega)
  have o1 := o1.chg1 ch (by omega)
  have hr : Reps w [.string a6, .bool a7, .slice a8p a8n a8c] [.str a6, .bool a7, .ints a8z] := ⟨rfl, ⟨rfl, ⟨⟨_, _, _, rfl, a8h⟩, trivial⟩⟩⟩
  refine ⟨_, _, _, _, _, b0.loadA (xs := [.string a6, .bool a7, .slice a8p a8n a8c]) (by kernel_rfl) rfl, ?_⟩
  refine Ret.at (laws_toMoney_c (hr.ext x) rfl (by simp only [bulks, D0.bulk, List.map_cons, List.map_nil, List.sum_cons, List.sum_nil]; omega)) ?_
  rintro v w8 ⟨us2, f2, hv, o2, nd2, y⟩
  subst hv
  have hq := o2.reps; have hqc : ([.str a6, .bool a7, .ints a8z] : List D0).map D0.code = [.str, .bool, .ints] := rfl
  obtain ⟨q20, us, es, hv, hd, hq2, hqc2⟩ := hq.str hqc
  subst hv; cases hd; clear hq hqc; have hq := hq2; have hqc := hqc2; clear hq2 hqc2
  obtain ⟨q21, us, es, hv, hd, hq2, hqc2⟩ := hq.bool hqc
  subst hv; cases hd; clear hq hqc; have hq := hq2; have hqc := hqc2; clear hq2 hqc2
  obtain ⟨q22p, q22n, q22c, q22z, us, es, hv, hd, q22h, hq2, hqc2⟩ := hq.ints hqc
  subst hv; cases hd; clear hq hqc; have hq := hq2; have hqc := hqc2; clear hq2 hqc2
  obtain ⟨hv, _⟩ := hq.done hqc; subst hv; clear hq hqc
  refine ⟨_, _, _, _, _, rfl, ?_⟩
  have l2 : ∀ k ∈ _, k < w8.heap.size := fun k hk => (o2.lt k hk).2
  have y2 := y.le; have b0 := b0.ext y; have b1 := b1.ext y; have b2 := b2.ext y; have x := x.trans y
  have o0 := o0.ext y
  have o1 := o1.ext y
  obtain ⟨w9, st, b2', ch, sz⟩ := b2.storeA (P := P) (t := T_impl_Money) (k := 6) (xs := [.string a6, .bool a7, .slice q22p q22n q22c]) (by kernel_rfl) (by simp) o2.reps.cells1
  refine ⟨_, st, ?_⟩
  have x := x.chg ch (by simp; omega); have b0 := b0.chg ch (by simp; omega); have b1 := b1.chg ch (by simp; omega)
  have b2 : Blk w9 r2 _ [.string a0, .bool a1, .slice q02p q02n q02c, .string a3, .bool a4, .slice q12p q12n q12c, .string a6, .bool a7, .slice q22p q22n q22c] := b2'
  clear b2'
  have o0 := o0.chg1 ch (by omega)
  have o1 := o1.chg1 ch (by omega)
  have o2 := o2.chg1 ch (by omega)
  refine ⟨_, _, _, _, _, _, _, _, _, _, _, _, _, _, _, b2.loadA0 (by kernel_rfl), ?_⟩
  have ow : Owns w9 w.heap.size [.string a0, .bool a1, .slice q02p q02n q02c, .string a3, .bool a4, .slice q12p q12n q12c, .string a6, .bool a7, .slice q22p q22n q22c] [.str a0, .bool a1, .ints a2z, .str a3, .bool a4, .ints a5z, .str a6, .bool a7, .ints a8z] (f0 ++ (f1 ++ f2)) := Owns.append (o0.mono (by omega)) (Owns.append (o1.mono (by omega)) (o2.mono (by omega)))
  obtain ⟨w10, st, b1', ch, sz⟩ := b1.storeA0 (P := P) (t := T_impl_Row) (xs := [.string a0, .bool a1, .slice q02p q02n q02c, .string a3, .bool a4, .slice q12p q12n q12c, .string a6, .bool a7, .slice q22p q22n q22c]) (by kernel_rfl) rfl ow.reps.cells1
  refine ⟨_, st, _, _, _, _, _, _, _, _, _, _, _, _, _, _, _, b1'.loadA0 (by kernel_rfl), [.string a0, .bool a1, .slice q02p q02n q02c, .string a3, .bool a4, .slice q12p q12n q12c, .string a6, .bool a7, .slice q22p q22n q22c], (f0 ++ (f1 ++ f2)), rfl, Owns.append ((o0.chg1 ch (by omega)).mono (by omega)) (Owns.append ((o1.chg1 ch (by omega)).mono (by omega)) ((o2.chg1 ch (by omega)).mono (by omega))), ?_, x.chg ch (by simp; omega)⟩
  try simp only [List.nil_append, List.append_nil]
  have p2 := nd2
  have m2 : ∀ k ∈ f2, w7.heap.size ≤ k := fun k hk => (o2.lt k hk).1
  have p1 := nodup_append nd1 p2 (m := w7.heap.size) (fun k hk => Nat.lt_of_lt_of_le (l1 k hk) (by omega)) m2
  have m1 : ∀ k ∈ (f1 ++ f2), w5.heap.size ≤ k := fun k hk => by
    rcases List.mem_append.1 hk with hk | hk
    · exact (o1.lt k hk).1
    · have := m2 k hk; omega
  have p0 := nodup_append nd0 p1 (m := w5.heap.size) (fun k hk => Nat.lt_of_lt_of_le (l0 k hk) (by omega)) m1
  exact p0
theorem laws_eqRow_c {w : World} {xs ys : List Value} {dx dy : List D0} (h : Reps w xs dx) (k : Reps w ys dy) (hc : dx.map D0.code = [.str, .bool, .ints, .str, .bool, .ints, .str, .bool, .ints]) (kc : dy.map D0.code = [.str, .bool, .ints, .str, .bool, .ints, .str, .bool, .ints]) :
    Ret P n_laws_eqRow [.agg ⟨xs⟩, .agg ⟨ys⟩] w fun v w' => v = .bool (decide (dx = dy)) ∧ Ext w w' := by
  obtain ⟨a0, us, es, hv, hd, h2, hc2⟩ := h.str hc
  subst hv; subst hd
  clear h hc
  have h := h2; have hc := hc2; clear h2 hc2
  obtain ⟨a1, us, es, hv, hd, h2, hc2⟩ := h.bool hc
  subst hv; subst hd
  clear h hc
  have h := h2; have hc := hc2; clear h2 hc2
  obtain ⟨a2p, a2n, a2c, a2z, us, es, hv, hd, a2h, h2, hc2⟩ := h.ints hc
  subst hv; subst hd
  clear h hc
  have h := h2; have hc := hc2; clear h2 hc2
  obtain ⟨a3, us, es, hv, hd, h2, hc2⟩ := h.str hc
  subst hv; subst hd
  clear h hc
  have h := h2; have hc := hc2; clear h2 hc2
  obtain ⟨a4, us, es, hv, hd, h2, hc2⟩ := h.bool hc
  subst hv; subst hd
  clear h hc
  have h := h2; have hc := hc2; clear h2 hc2
  obtain ⟨a5p, a5n, a5c, a5z, us, es, hv, hd, a5h, h2, hc2⟩ := h.ints hc
  subst hv; subst hd
  clear h hc
  have h := h2; have hc := hc2; clear h2 hc2
  obtain ⟨a6, us, es, hv, hd, h2, hc2⟩ := h.str hc
  subst hv; subst hd
  clear h hc
  have h := h2; have hc := hc2; clear h2 hc2
  obtain ⟨a7, us, es, hv, hd, h2, hc2⟩ := h.bool hc
  subst hv; subst hd
  clear h hc
  have h := h2; have hc := hc2; clear h2 hc2
  obtain ⟨a8p, a8n, a8c, a8z, us, es, hv, hd, a8h, h2, hc2⟩ := h.ints hc
  subst hv; subst hd
  clear h hc
  have h := h2; have hc := hc2; clear h2 hc2
  obtain ⟨hv, hd⟩ := h.done hc
  subst hv; subst hd; clear h hc
  obtain ⟨bb0, us, es, hv, hd, k2, kc2⟩ := k.str kc
  subst hv; subst hd
  clear k kc
  have k := k2; have kc := kc2; clear k2 kc2
  obtain ⟨bb1, us, es, hv, hd, k2, kc2⟩ := k.bool kc
  subst hv; subst hd
  clear k kc
  have k := k2; have kc := kc2; clear k2 kc2
  obtain ⟨bb2p, bb2n, bb2c, bb2z, us, es, hv, hd, bb2h, k2, kc2⟩ := k.ints kc
  subst hv; subst hd
  clear k kc
  have k := k2; have kc := kc2; clear k2 kc2
  obtain ⟨bb3, us, es, hv, hd, k2, kc2⟩ := k.str kc
  subst hv; subst hd
  clear k kc
  have k := k2; have kc := kc2; clear k2 kc2
  obtain ⟨bb4, us, es, hv, hd, k2, kc2⟩ := k.bool kc
  subst hv; subst hd
  clear k kc
  have k := k2; have kc := kc2; clear k2 kc2
  obtain ⟨bb5p, bb5n, bb5c, bb5z, us, es, hv, hd, bb5h, k2, kc2⟩ := k.ints kc
  subst hv; subst hd
  clear k kc
  have k := k2; have kc := kc2; clear k2 kc2
  obtain ⟨bb6, us, es, hv, hd, k2, kc2⟩ := k.str kc
  subst hv; subst hd
  clear k kc
  have k := k2; have kc := kc2; clear k2 kc2
  obtain ⟨bb7, us, es, hv, hd, k2, kc2⟩ := k.bool kc
  subst hv; subst hd
  clear k kc
  have k := k2; have kc := kc2; clear k2 kc2
  obtain ⟨bb8p, bb8n, bb8c, bb8z, us, es, hv, hd, bb8h, k2, kc2⟩ := k.ints kc
  subst hv; subst hd
  clear k kc
  have k := k2; have kc := kc2; clear k2 kc2
  obtain ⟨hv, hd⟩ := k.done kc
  subst hv; subst hd; clear k kc
  refine laws_eqRow_ret ?_
  unfold laws_eqRow
  intro r w1 hn1 r1 w2 hn2
  have x := hn1.ext.trans hn2.ext
  have b0 := hn1.blk.ext hn2.ext
  have b1 := hn2.blk
  have ha : Reps w [.string a0, .bool a1, .slice a2p a2n a2c] [.str a0, .bool a1, .ints a2z] := ⟨rfl, ⟨rfl, ⟨⟨_, _, _, rfl, a2h⟩, trivial⟩⟩⟩
  have hb : Reps w [.string bb0, .bool bb1, .slice bb2p bb2n bb2c] [.str bb0, .bool bb1, .ints bb2z] := ⟨rfl, ⟨rfl, ⟨⟨_, _, _, rfl, bb2h⟩, trivial⟩⟩⟩
  refine ⟨_, _, _, _, _, b0.loadA (xs := [.string a0, .bool a1, .slice a2p a2n a2c]) (by kernel_rfl) rfl, _, _, _, _, _, b1.loadA (xs := [.string bb0, .bool bb1, .slice bb2p bb2n bb2c]) (by kernel_rfl) rfl, ?_⟩
  refine Ret.at (laws_eqMoney_c (ha.ext x) (hb.ext x) rfl rfl) ?_
  rintro v w3 ⟨hv, y⟩
  subst hv
  have x := x.trans y; have b0 := b0.ext y; have b1 := b1.ext y
  refine ⟨_, rfl, ifN (fun hne => ⟨dec_no (fun e => ?_), x⟩) (fun heq => ?_)⟩
  · have e2 := congrArg (fun l : List D0 => (l.drop 0).take 3) e
    exact of_decide_eq_false hne e2
  have heq := of_decide_eq_true heq
  cases heq
  have ha : Reps w [.string a3, .bool a4, .slice a5p a5n a5c] [.str a3, .bool a4, .ints a5z] := ⟨rfl, ⟨rfl, ⟨⟨_, _, _, rfl, a5h⟩, trivial⟩⟩⟩
  have hb : Reps w [.string bb3, .bool bb4, .slice bb5p bb5n bb5c] [.str bb3, .bool bb4, .ints bb5z] := ⟨rfl, ⟨rfl, ⟨⟨_, _, _, rfl, bb5h⟩, trivial⟩⟩⟩
  refine ⟨_, _, _, _, _, b0.loadA (xs := [.string a3, .bool a4, .slice a5p a5n a5c]) (by kernel_rfl) rfl, _, _, _, _, _, b1.loadA (xs := [.string bb3, .bool bb4, .slice bb5p bb5n bb5c]) (by kernel_rfl) rfl, ?_⟩
  refine Ret.at (laws_eqMoney_c (ha.ext x) (hb.ext x) rfl rfl) ?_
  rintro v w4 ⟨hv, y⟩
  subst hv
  have x := x.trans y; have b0 := b0.ext y; have b1 := b1.ext y
  refine ⟨_, rfl, ifN (fun hne => ⟨dec_no (fun e => ?_), x⟩) (fun heq => ?_)⟩
  · have e2 := congrArg (fun l : List D0 => (l.drop 3).take 3) e
    exact of_decide_eq_false hne e2
  have heq := of_decide_eq_true heq
  cases heq
  have ha : Reps w [.string a6, .bool a7, .slice a8p a8n a8c] [.str a6, .bool a7, .ints a8z] := ⟨rfl, ⟨rfl, ⟨⟨_, _, _, rfl, a8h⟩, trivial⟩⟩⟩
  have hb : Reps w [.string bb6, .bool bb7, .slice bb8p bb8n bb8c] [.str bb6, .bool bb7, .ints bb8z] := ⟨rfl, ⟨rfl, ⟨⟨_, _, _, rfl, bb8h⟩, trivial⟩⟩⟩
  refine ⟨_, _, _, _, _, b0.loadA (xs := [.string a6, .bool a7, .slice a8p a8n a8c]) (by kernel_rfl) rfl, _, _, _, _, _, b1.loadA (xs := [.string bb6, .bool bb7, .slice bb8p bb8n bb8c]) (by kernel_rfl) rfl, ?_⟩
  refine Ret.at (laws_eqMoney_c (ha.ext x) (hb.ext x) rfl rfl) ?_
  rintro v w5 ⟨hv, y⟩
  subst hv
  have x := x.trans y; have b0 := b0.ext y; have b1 := b1.ext y
  refine ⟨_, rfl, ifN (fun hne => ⟨dec_no (fun e => ?_), x⟩) (fun heq => ?_)⟩
  · have e2 := congrArg (fun l : List D0 => (l.drop 6).take 3) e
    exact of_decide_eq_false hne e2
  have heq := of_decide_eq_true heq
  cases heq
  exact ⟨dec_yes rfl, x⟩
end Go.Proofs.YtpaekkcgphljoaaDoor

namespace Go.Proofs.YtpaekkcgphljoaaDoor
open Go Go.Proofs.YtpaekkcgphljoaaDoor.Sx
set_option linter.unusedVariables false
set_option linter.unusedSimpArgs false
/-- the element that a loop reads -/
theorem ints_at {w : World} {p : Option Addr} {n c : Nat} {zs : List Int} (h : IntsR w p n c zs) {i : Int} (h0 : 0 ≤ i) (h1 : i < n) :
    ∃ a, p = some a ∧ Loads P T_int (a.add (i.toNat * 1)) (.int .i64 (zs.getD i.toNat 0)) w := by
  obtain ⟨a, hp, hl⟩ := h.at (P := P) (t := T_int) (k := i.toNat) (by kernel_rfl) (by omega)
  have hz : i.toNat < zs.length := by rw [h.1]; omega
  refine ⟨a, hp, ?_⟩
  rw [List.getD_eq_getElem?_getD, List.getElem?_eq_getElem hz]
  simpa using hl
theorem spec_l01In_c (n lo hi : Int) (w : World) : Ret P n_spec_l01In [.int .i64 n, .int .i64 lo, .int .i64 hi] w fun v w' => v = .bool (decide (lo ≤ n ∧ n ≤ hi)) ∧ w' = w := by
  refine spec_l01In_ret ?_
  unfold spec_l01In
  refine ifD (fun h => ⟨?_, rfl⟩) (fun h => ⟨?_, rfl⟩) <;> simp [h]
/-- a limb -/
def isLimb (z : Int) : Bool := decide (0 ≤ z ∧ z ≤ 999999999)
/-- a natural number as its limbs, the lowest first -/
def natOk (zs : List Int) : Bool := zs.all isLimb && decide (zs.length ≤ 50) && !(decide (zs.getLast? = some 0))
theorem getLast_getD {zs : List Int} (h : 0 < zs.length) : zs.getLast? = some (zs.getD (zs.length - 1) 0) := by
  rw [List.getLast?_eq_getElem?, List.getD_eq_getElem?_getD, List.getElem?_eq_getElem (by omega)]
  rfl
theorem all_getD {zs : List Int} (h : ∀ k < zs.length, isLimb (zs.getD k 0) = true) : zs.all isLimb = true := by
  rw [List.all_eq_true]
  intro z hz
  obtain ⟨i, hi, rfl⟩ := List.getElem_of_mem hz
  have := h i hi
  rwa [List.getD_eq_getElem?_getD, List.getElem?_eq_getElem hi] at this
theorem not_all_getD {zs : List Int} {k : Nat} (hk : k < zs.length) (h : isLimb (zs.getD k 0) = false) : zs.all isLimb = false := by
  rw [List.getD_eq_getElem?_getD, List.getElem?_eq_getElem hk] at h
  rw [List.all_eq_false]
  exact ⟨_, List.getElem_mem hk, by simpa using h⟩
theorem spec_NatOk_c {w : World} {p : Option Addr} {n c : Nat} {zs : List Int} (h : IntsR w p n c zs) : Ret P n_spec_NatOk [.slice p n c] w fun v w' => v = .bool (natOk zs) ∧ Ext w w' := by
  refine spec_NatOk_ret ?_
  unfold spec_NatOk
  have hlen := h.1; have hcap := h.2.1; have hcm := h.2.2.1
  refine ⟨fun i wr => ∃ k : Nat, i = k ∧ k ≤ n ∧ Ext w wr ∧ ∀ j < k, isLimb (zs.getD j 0) = true, fun i _ => n - i.toNat, ⟨0, rfl, by omega, Ext.refl _, fun j hj => by omega⟩, ?_⟩
  intro junk wr i ⟨k, hik, hk, hx, hall⟩
  subst hik
  refine ifD (fun hlt => ?_) (fun hge => ?_)
  · obtain ⟨a, rfl, hl⟩ := ints_at (h.ext hx) (i := (k : Int)) (by omega) (by omega)
    refine ⟨⟨by omega, by omega⟩, _, hl, ?_⟩
    refine Ret.at (spec_l01In_c _ 0 999999999 wr) ?_
    rintro v w1 ⟨hv, hw⟩
    subst hv; subst hw
    refine ⟨_, rfl, ifN (fun hb => ⟨?_, hx⟩) (fun hb => ?_)⟩
    · have : zs.all isLimb = false := not_all_getD (k := k) (by omega) (by simpa [isLimb] using hb)
      simp [natOk, this]
    · refine exW ⟨by omega, by omega⟩ ⟨⟨k + 1, by omega, by omega, hx, fun j hj => ?_⟩, by simp; omega⟩
      by_cases hjk : j < k
      · exact hall j hjk
      · obtain rfl : j = k := by omega
        simpa [isLimb] using hb
  · have hkn : k = n := by omega
    subst hkn
    have hal : zs.all isLimb = true := all_getD (fun j hj => hall j (by omega))
    refine ifD (fun hle => ifD (fun h0 => ⟨?_, hx⟩) (fun h0 => ?_)) (fun hgt => ⟨?_, hx⟩)
    · have : zs = [] := List.eq_nil_of_length_eq_zero (by omega)
      subst this; rfl
    · obtain ⟨a, rfl, hl⟩ := ints_at (h.ext hx) (i := (k : Int) - 1) (by omega) (by omega)
      refine exW ⟨by omega, by omega⟩ ⟨⟨by omega, by omega⟩, _, hl, ?_, hx⟩
      have e : ((k : Int) - 1).toNat = zs.length - 1 := by omega
      simp only [natOk, hal, getLast_getD (show 0 < zs.length by omega), e, Option.some.injEq, Bool.true_and]
      rw [show decide (zs.length ≤ 50) = true by simp; omega]
      simp
    · simp [natOk, hal, show ¬ zs.length ≤ 50 by omega]
theorem impl_NatOk_c {w : World} {p : Option Addr} {n c : Nat} {zs : List Int} (h : IntsR w p n c zs) : Ret P n_impl_NatOk [.slice p n c] w fun v w' => v = .bool (natOk zs) ∧ Ext w w' := by
  have hlen := h.1; have hcap := h.2.1; have hcm := h.2.2.1
  have J : ∀ wr, Ext w wr → zs.length ≤ 50 → zs.getLast? ≠ some 0 → impl_NatOk_j0 p n wr fun v w' => v = .bool (natOk zs) ∧ Ext w w' := by
    intro wr hx0 h50 hl0
    unfold impl_NatOk_j0
    refine ⟨fun i wr => ∃ k : Nat, i = k ∧ k ≤ n ∧ Ext w wr ∧ ∀ j < k, isLimb (zs.getD j 0) = true, fun i _ => n - i.toNat, ⟨0, rfl, by omega, hx0, fun j hj => by omega⟩, ?_⟩
    intro junk wr i ⟨k, hik, hk, hx, hall⟩
    subst hik
    refine ifD (fun hlt => ?_) (fun hge => ⟨?_, hx⟩)
    · obtain ⟨a, rfl, hl⟩ := ints_at (h.ext hx) (i := (k : Int)) (by omega) (by omega)
      have no : isLimb (zs.getD k 0) = false → Value.bool false = .bool (natOk zs) := fun hf => by
        have : zs.all isLimb = false := not_all_getD (k := k) (by omega) hf
        simp [natOk, this]
      refine ⟨⟨by omega, by omega⟩, _, hl, ifD (fun hb => ifT ⟨no (by simp [isLimb]; simp at hb; omega), hx⟩) (fun hb => ifD (fun hb2 => ⟨no (by simp [isLimb]; simp at hb2; omega), hx⟩) (fun hb2 => ?_))⟩
      refine exW ⟨by omega, by omega⟩ ⟨⟨k + 1, by omega, by omega, hx, fun j hj => ?_⟩, by simp; omega⟩
      by_cases hjk : j < k
      · exact hall j hjk
      · obtain rfl : j = k := by omega
        simp [isLimb]; simp at hb hb2; omega
    · have hal : zs.all isLimb = true := all_getD (fun j hj => hall j (by omega))
      simp [natOk, hal, h50, hl0]
  refine impl_NatOk_ret ?_
  unfold impl_NatOk
  refine ifD (fun hgt => ifT ⟨by simp [natOk, show ¬ zs.length ≤ 50 by omega], Ext.refl _⟩) (fun hle => ifD (fun hpos => ?_) (fun h0 => ifF ?_))
  · obtain ⟨a, rfl, hl⟩ := ints_at h (i := (n : Int) - 1) (by omega) (by omega)
    have e : ((n : Int) - 1).toNat = zs.length - 1 := by omega
    have hg := getLast_getD (show 0 < zs.length by omega)
    rw [← e] at hg
    refine exW ⟨by omega, by omega⟩ ⟨⟨by omega, by omega⟩, _, hl, ifD (fun hz => ⟨?_, Ext.refl _⟩) (fun hz => J w (Ext.refl _) (by omega) (by rw [hg]; simpa using hz))⟩
    simp only [natOk, hg, hz]; simp
  · have : zs = [] := List.eq_nil_of_length_eq_zero (by omega)
    exact J w (Ext.refl _) (by omega) (by rw [this]; simp)
theorem getD_beyond {a : List Int} {j : Nat} (h : a.length ≤ j) : a.getD j 0 = 0 := by
  rw [List.getD_eq_getElem?_getD, List.getElem?_eq_none h]; rfl
end Go.Proofs.YtpaekkcgphljoaaDoor

namespace Go.Proofs.YtpaekkcgphljoaaDoor
open Go Go.Proofs.YtpaekkcgphljoaaDoor.Sx
set_option linter.unusedVariables false
set_option linter.unusedSimpArgs false
def curCells (r : CurRow) : List Value := [.string r.1, .string r.2.1, .int .i64 r.2.2.1, .int .i64 r.2.2.2]
def curZero : CurRow := (ByteArray.empty, ByteArray.empty, 0, 0)
def curFind : List CurRow → ByteArray → CurRow
  | [], _ => curZero
  | r :: l, c => if r.1 = c then r else curFind l c
def curIn (l : List CurRow) (c : ByteArray) : Bool := l.any fun r => decide (r.1 = c)
def curKnown (c : ByteArray) : Bool := curIn implTab c
/-- the program's table lies in its variable -/
def Tab (w : World) : Prop := Seg w 0 0 (implTab.flatMap curCells)
theorem Tab.ext {w w' : World} (h : Tab w) (he : Ext w w') : Tab w' := Seg.ext h he
theorem curIn_drop {l : List CurRow} {c : ByteArray} {j : Nat} (hj : j < l.length) : curIn (l.drop j) c = (decide ((l[j]'hj).1 = c) || curIn (l.drop (j + 1)) c) := by
  rw [List.drop_eq_getElem_cons hj, curIn, List.any_cons]; rfl
theorem curFind_drop {l : List CurRow} {c : ByteArray} {j : Nat} (hj : j < l.length) : curFind (l.drop j) c = if (l[j]'hj).1 = c then l[j]'hj else curFind (l.drop (j + 1)) c := by
  rw [List.drop_eq_getElem_cons hj, curFind]
theorem curFind_fst {c : ByteArray} : ∀ {l : List CurRow}, (∀ r ∈ l, r.1 ≠ ByteArray.empty) → decide ((curFind l c).1 ≠ ByteArray.empty) = curIn l c
  | [], _ => by simp [curFind, curIn, curZero]
  | r :: l, h => by
    unfold curFind
    have hr := h r (.head _)
    have ih := curFind_fst (c := c) fun r hr => h r (.tail _ hr)
    rw [curIn, List.any_cons]
    by_cases he : r.1 = c
    · rw [if_pos he, decide_eq_true hr]; simp [he]
    · rw [if_neg he, ih]; simp [he, curIn]
theorem flat_row : ∀ (l : List CurRow) (j : Nat) (hj : j < l.length), ((l.flatMap curCells).drop (j * 4)).take 4 = curCells (l[j]'hj)
  | r :: l, 0, _ => by simp [List.flatMap_cons, curCells]
  | r :: l, j + 1, hj => by
    have := flat_row l j (by simpa using hj)
    rw [List.flatMap_cons, show (j + 1) * 4 = 4 + j * 4 by omega, ← List.drop_drop, List.drop_left' (show (curCells r).length = 4 from rfl), this]
    rfl
theorem flat_length : ∀ (l : List CurRow), (l.flatMap curCells).length = l.length * 4
  | [] => rfl
  | r :: l => by rw [List.flatMap_cons, List.length_append, flat_length l, List.length_cons]; simp [curCells]; omega
theorem impl_length : implTab.length = 20 := rfl
set_option maxRecDepth 100000 in
theorem index_cur {j : Nat} (hj : j < implTab.length) {K : Value → Prop} (h : K (.agg ⟨curCells (implTab[j]'hj)⟩)) : indexS P T_20_impl_currency (.agg ⟨implTab.flatMap curCells⟩) (.int .i64 (j : Nat)) K := by
  have hu : P.underlying T_20_impl_currency = some (.array 20 T_impl_currency) := und_T_20_impl_currency
  have hc : P.cellsOf T_impl_currency = 4 := by kernel_rfl
  obtain ⟨fs, hs⟩ := und_T_impl_currency
  have hs : P.underlying T_impl_currency = some (.struct fs) := hs
  have hl := impl_length
  unfold indexS
  rw [hu]
  refine ⟨⟨by omega, by omega⟩, _, ?_, h⟩
  unfold partS
  rw [hs, hc]
  show Value.agg ⟨((implTab.flatMap curCells).drop (((j : Nat) : Int).toNat * 4)).take 4⟩ = _
  rw [Int.toNat_natCast, flat_row]
set_option maxRecDepth 100000 in
theorem impl_currencyOf_c {w : World} (ht : Tab w) (c : ByteArray) :
    Ret P n_impl_currencyOf [.string c] w fun v w' => v = .tuple #[.agg ⟨curCells (curFind implTab c)⟩, .bool (curKnown c)] ∧ Ext w w' := by
  have hlen := impl_length
  refine impl_currencyOf_ret ?_
  unfold impl_currencyOf
  intro r w1 hn1
  have e1 := hn1.r_eq; have s1 := hn1.size
  refine ⟨_, loadsA (by rw [flat_length]; kernel_rfl) (ht.ext hn1.ext), ?_⟩
  refine ⟨fun i wr => ∃ j : Nat, i = j ∧ j ≤ 20 ∧ Ext w1 wr ∧ curFind implTab c = curFind (implTab.drop j) c ∧ curKnown c = curIn (implTab.drop j) c, fun i _ => 20 - i.toNat, ⟨0, rfl, by omega, Ext.refl _, rfl, rfl⟩, ?_⟩
  intro junk wr i ⟨j, hij, hj, hx, hf, hk⟩
  subst hij
  have lx := hx.le
  refine ifD (fun hlt => ?_) (fun hge => ?_)
  · have hjl : j < implTab.length := by omega
    rw [curFind_drop hjl] at hf
    rw [curIn_drop hjl] at hk
    apply index_cur hjl
    intro r1 w2 hn2
    obtain ⟨w3, st, hb3, y3⟩ := hn2.fill (P := P) (t := T_impl_currency) (xs := curCells (implTab[j]'hjl)) (by simp [curCells, Value.oneCell']) (by kernel_rfl) rfl
    refine ⟨w3, st, _, hb3.loadAt 0 rfl (by kernel_rfl) rfl, ifD (fun heq => ?_) (fun hne => ?_)⟩
    · have hf := hf.trans (if_pos heq)
      rw [decide_eq_true heq, Bool.true_or] at hk
      obtain ⟨w4, st4, hb4, ch, sz⟩ := (hn1.blk.ext (hx.trans y3)).storeA0 (P := P) (t := T_impl_currency) (xs := curCells (implTab[j]'hjl)) (by kernel_rfl) rfl (by simp [curCells, Value.oneCell'])
      refine ⟨_, _, _, _, hb3.loadA0 (by kernel_rfl), w4, st4, _, _, _, _, hb4.loadA0 (by kernel_rfl), ?_, ((hn1.ext.trans hx).trans y3).chg ch (by simp; omega)⟩
      rw [hf, hk]; rfl
    · have hf := hf.trans (if_neg hne)
      rw [decide_eq_false hne, Bool.false_or] at hk
      refine exW ⟨by omega, by omega⟩ ⟨⟨j + 1, by omega, by omega, hx.trans y3, hf, hk⟩, ?_⟩
      show 20 - ((j : Int) + 1).toNat < 20 - (j : Int).toNat
      omega
  · rw [List.drop_of_length_le (by omega)] at hf hk
    obtain ⟨w4, st4, hb4, ch, sz⟩ := (hn1.blk.ext hx).storeA0 (P := P) (t := T_impl_currency) (xs := curCells curZero) (by kernel_rfl) rfl (by simp [curCells, Value.oneCell'])
    refine ⟨w4, st4, _, _, _, _, hb4.loadA0 (by kernel_rfl), ?_, (hn1.ext.trans hx).chg ch (by simp; omega)⟩
    rw [hf, hk]; rfl
theorem impl_CurKnown_c {w : World} (ht : Tab w) (c : ByteArray) :
    Ret P n_impl_CurKnown [.string c] w fun v w' => v = .bool (curKnown c) ∧ Ext w w' := by
  refine impl_CurKnown_ret ?_
  unfold impl_CurKnown
  refine Ret.at (impl_currencyOf_c ht c) ?_
  rintro v w1 ⟨hv, y1⟩
  subst hv
  refine ⟨_, _, _, _, _, rfl, ?_⟩
  intro r w2 hn2
  obtain ⟨w3, st, hb3, y3⟩ := hn2.fill (P := P) (t := T_impl_currency) (xs := curCells (curFind implTab c)) (by simp [curCells, Value.oneCell']) (by kernel_rfl) rfl
  exact ⟨w3, st, rfl, y1.trans y3⟩
theorem spec_nonempty : ∀ r ∈ specTab, r.1 ≠ ByteArray.empty := by
  have : (specTab.all fun r => decide (r.1 ≠ ByteArray.empty)) = true := by decide +kernel
  intro r hr
  rw [List.all_eq_true] at this
  exact of_decide_eq_true (this r hr)
theorem spec_known (c : ByteArray) : curIn specTab c = curKnown c := by
  have h1 : (specTab.all fun r => curIn implTab r.1) = true := by decide +kernel
  have h2 : (implTab.all fun r => curIn specTab r.1) = true := by decide +kernel
  rw [List.all_eq_true] at h1 h2
  have key : ∀ {a b : List CurRow}, (∀ r ∈ a, curIn b r.1 = true) → curIn a c = true → curIn b c = true := by
    intro a b h hc
    unfold curIn at hc
    rw [List.any_eq_true] at hc
    obtain ⟨r, hr, he⟩ := hc
    have he := of_decide_eq_true he
    have := h r hr
    rwa [he] at this
  unfold curKnown
  cases h3 : curIn specTab c with
  | true => exact (key h1 h3).symm
  | false =>
    cases h4 : curIn implTab c with
    | false => rfl
    | true => rw [key h2 h4] at h3; cases h3
theorem spec_length : specTab.length = 20 := rfl
theorem spec_l08Find_c {w : World} (c : ByteArray) :
    Ret P n_spec_l08Find [.string c] w fun v w' => v = .agg ⟨curCells (curFind specTab c)⟩ ∧ Ext w w' := by
  have hlen := spec_length
  refine spec_l08Find_ret ?_
  unfold spec_l08Find
  intro r w1 hn1
  have e1 := hn1.r_eq; have s1 := hn1.size
  refine Ret.at (R := fun v w' => ∃ r, v = .slice (some ⟨r, 0, none⟩) 20 20 ∧ Seg w' r 0 (specTab.flatMap curCells) ∧ Ext w1 w') ?_ ?_
  · refine spec_l08Table_ret ?_
    unfold spec_l08Table
    intro r2 w2 hn2
    exact ⟨r2, rfl, hn2.blk.seg, hn2.ext⟩
  rintro v w2 ⟨r2, hv, hseg, y2⟩
  subst hv
  refine ⟨_, _, _, rfl, ?_⟩
  refine ⟨fun i wr => ∃ j : Nat, i = j ∧ j ≤ 20 ∧ Ext w2 wr ∧ curFind specTab c = curFind (specTab.drop j) c, fun i _ => 20 - i.toNat, ⟨0, rfl, by omega, Ext.refl _, rfl⟩, ?_⟩
  intro junk wr i ⟨j, hij, hj, hx, hf⟩
  subst hij
  have lx := hx.le; have ly := y2.le
  refine ifD (fun hlt => ?_) (fun hge => ?_)
  · have hjl : j < specTab.length := by omega
    rw [curFind_drop hjl] at hf
    have hrow : Seg wr r2 (0 + j * 4) (curCells (specTab[j]'hjl)) := by
      rw [← flat_row specTab j hjl]
      exact ((hseg.ext hx).drop (j * 4)).take 4
    refine ⟨⟨by omega, by omega⟩, _, _, _, _, (by simp only [addr_add, Int.toNat_natCast]; exact loadsA (cs := curCells (specTab[j]'hjl)) (by kernel_rfl) hrow), ?_⟩
    intro r1 w3 hn3
    obtain ⟨w4, st, hb4, y4⟩ := hn3.fill (P := P) (t := T_spec_l08Row) (xs := curCells (specTab[j]'hjl)) (by simp [curCells, Value.oneCell']) (by kernel_rfl) rfl
    refine ⟨w4, st, _, hb4.loadAt 0 rfl (by kernel_rfl) rfl, ifD (fun heq => ?_) (fun hne => ?_)⟩
    · have hf := hf.trans (if_pos heq)
      obtain ⟨w5, st5, hb5, ch, sz⟩ := (hn1.blk.ext ((y2.trans hx).trans y4)).storeA0 (P := P) (t := T_spec_l08Row) (xs := curCells (specTab[j]'hjl)) (by kernel_rfl) rfl (by simp [curCells, Value.oneCell'])
      refine ⟨_, _, _, _, hb4.loadA0 (by kernel_rfl), w5, st5, _, _, _, _, hb5.loadA0 (by kernel_rfl), ?_, (((hn1.ext.trans y2).trans hx).trans y4).chg ch (by simp; omega)⟩
      rw [hf]; rfl
    · have hf := hf.trans (if_neg hne)
      refine exW ⟨by omega, by omega⟩ ⟨⟨j + 1, by omega, by omega, hx.trans y4, hf⟩, ?_⟩
      show 20 - ((j : Int) + 1).toNat < 20 - (j : Int).toNat
      omega
  · rw [List.drop_of_length_le (by omega)] at hf
    obtain ⟨w4, st4, hb4, ch, sz⟩ := (hn1.blk.ext (y2.trans hx)).storeA0 (P := P) (t := T_spec_l08Row) (xs := curCells curZero) (by kernel_rfl) rfl (by simp [curCells, Value.oneCell'])
    refine ⟨w4, st4, _, _, _, _, hb4.loadA0 (by kernel_rfl), ?_, ((hn1.ext.trans y2).trans hx).chg ch (by simp; omega)⟩
    rw [hf]; rfl
theorem spec_CurKnown_c {w : World} (c : ByteArray) :
    Ret P n_spec_CurKnown [.string c] w fun v w' => v = .bool (curKnown c) ∧ Ext w w' := by
  refine spec_CurKnown_ret ?_
  unfold spec_CurKnown
  refine Ret.at (spec_l08Find_c c) ?_
  rintro v w1 ⟨hv, y1⟩
  subst hv
  refine ⟨_, _, _, _, rfl, ?_, y1⟩
  rw [← spec_known, ← curFind_fst spec_nonempty]
  rfl
end Go.Proofs.YtpaekkcgphljoaaDoor

namespace Go.Proofs.YtpaekkcgphljoaaDoor
open Go Go.Proofs.YtpaekkcgphljoaaDoor.Sx
set_option linter.unusedVariables false
set_option linter.unusedSimpArgs false
/-- an integer: its sign, its limbs -/
def intOk : List D0 → Bool
  | [.bool b, .ints z] => natOk z && (!b || !z.isEmpty)
  | _ => false
theorem intOk_len {b : Bool} {z : List Int} {n : Nat} (h : z.length = n) : (decide ((0 : Int) < (n : Nat))) = !z.isEmpty := by
  cases z with
  | nil => simp at h; simp [← h]
  | cons a r => simp at h; simp [← h]
theorem spec_IntOk_c {w : World} {xs : List Value} {dx : List D0} (h : Reps w xs dx) (hc : dx.map D0.code = [.bool, .ints]) :
    Ret P n_spec_IntOk [.agg ⟨xs⟩] w fun v w' => v = .bool (intOk dx) ∧ Ext w w' := by
  obtain ⟨a0, a1p, a1n, a1c, a1z, rfl, rfl, ha⟩ := open_Signed h hc
  refine spec_IntOk_ret ?_
  unfold spec_IntOk
  intro r w1 hn
  have x := hn.ext
  refine ⟨_, _, _, hn.blk.load (by kernel_rfl) rfl, ?_⟩
  refine Ret.at (spec_NatOk_c (ha.ext x)) ?_
  rintro v w2 ⟨hv, y⟩
  subst hv
  have b := hn.blk.ext y; have x := x.trans y
  refine ⟨_, rfl, fun e => ⟨_, b.load (by kernel_rfl) rfl, ifN (fun hb => ⟨?_, x⟩) (fun hb => ?_)⟩, fun e => ⟨by simp [intOk, e], x⟩⟩
  · simp [intOk, e, hb]
  · exact ⟨_, _, _, b.load (by kernel_rfl) rfl, by rw [intOk_len (b := a0) ha.1]; simp [intOk, e, hb], x⟩
theorem impl_IntOk_c {w : World} {xs : List Value} {dx : List D0} (h : Reps w xs dx) (hc : dx.map D0.code = [.bool, .ints]) :
    Ret P n_impl_IntOk [.agg ⟨xs⟩] w fun v w' => v = .bool (intOk dx) ∧ Ext w w' := by
  obtain ⟨a0, a1p, a1n, a1c, a1z, rfl, rfl, ha⟩ := open_Signed h hc
  refine impl_IntOk_ret ?_
  unfold impl_IntOk
  intro r w1 hn
  have x := hn.ext
  refine ⟨_, _, _, hn.blk.load (by kernel_rfl) rfl, ?_⟩
  refine Ret.at (impl_NatOk_c (ha.ext x)) ?_
  rintro v w2 ⟨hv, y⟩
  subst hv
  have b := hn.blk.ext y; have x := x.trans y
  refine ⟨_, rfl, fun e => ⟨_, b.load (by kernel_rfl) rfl, ifN (fun hb => ⟨?_, x⟩) (fun hb => ?_)⟩, fun e => ⟨by simp [intOk, e], x⟩⟩
  · simp [intOk, e, hb]
  · exact ⟨_, _, _, b.load (by kernel_rfl) rfl, by rw [intOk_len (b := a0) ha.1]; simp [intOk, e, hb], x⟩
end Go.Proofs.YtpaekkcgphljoaaDoor

namespace Go.Proofs.YtpaekkcgphljoaaDoor
open Go Go.Proofs.YtpaekkcgphljoaaDoor.Sx
set_option linter.unusedVariables false
set_option linter.unusedSimpArgs false
def moneyOk : List D0 → Bool
  | [.str c, .bool b, .ints z] => curKnown c && intOk [.bool b, .ints z] && decide (z.length ≤ 4)
  | _ => false
theorem spec_MoneyOk_c {w : World} {xs : List Value} {dx : List D0} (h : Reps w xs dx) (hc : dx.map D0.code = [.str, .bool, .ints]) :
    Ret P n_spec_MoneyOk [.agg ⟨xs⟩] w fun v w' => v = .bool (moneyOk dx) ∧ Ext w w' := by
  obtain ⟨t0, a0, a1p, a1n, a1c, a1z, rfl, rfl, ha⟩ := open_Money h hc
  have hl := ha.1
  refine spec_MoneyOk_ret ?_
  unfold spec_MoneyOk
  intro r w1 hn1
  refine ⟨_, hn1.blk.loadAt 0 rfl (by kernel_rfl) rfl, ?_⟩
  refine Ret.at (spec_CurKnown_c t0) ?_
  rintro v w2 ⟨hv, y2⟩
  subst hv
  have X := hn1.ext.trans y2
  have b := hn1.blk.ext y2
  refine ⟨_, rfl, fun e1 => ?_, fun e1 => ifF ⟨by simp only [moneyOk, e1, Bool.false_and], X⟩⟩
  refine ⟨_, _, _, _, b.loadAAt 1 [.bool a0, .slice a1p a1n a1c] rfl (by kernel_rfl) rfl, ?_⟩
  have hs : Reps w2 [.bool a0, .slice a1p a1n a1c] [.bool a0, .ints a1z] := ⟨rfl, ⟨_, _, _, rfl, ha.ext X⟩, trivial⟩
  refine Ret.at (spec_IntOk_c hs rfl) ?_
  rintro v w3 ⟨hv, y3⟩
  subst hv
  refine ⟨_, rfl, fun e2 => ⟨_, _, _, (b.ext y3).loadAt 2 rfl (by kernel_rfl) rfl, ?_, X.trans y3⟩, fun e2 => ⟨by simp only [moneyOk, e2, Bool.and_false, Bool.false_and], X.trans y3⟩⟩
  simp only [moneyOk, e1, e2, Bool.true_and]
  congr 1
  simp; omega
theorem impl_MoneyOk_c {w : World} (ht : Tab w) {xs : List Value} {dx : List D0} (h : Reps w xs dx) (hc : dx.map D0.code = [.str, .bool, .ints]) :
    Ret P n_impl_MoneyOk [.agg ⟨xs⟩] w fun v w' => v = .bool (moneyOk dx) ∧ Ext w w' := by
  obtain ⟨t0, a0, a1p, a1n, a1c, a1z, rfl, rfl, ha⟩ := open_Money h hc
  have hl := ha.1
  refine impl_MoneyOk_ret ?_
  unfold impl_MoneyOk
  intro r w1 hn1
  refine ⟨_, hn1.blk.loadAt 0 rfl (by kernel_rfl) rfl, ?_⟩
  refine Ret.at (impl_CurKnown_c (ht.ext hn1.ext) t0) ?_
  rintro v w2 ⟨hv, y2⟩
  subst hv
  have X := hn1.ext.trans y2
  have b := hn1.blk.ext y2
  refine ⟨_, rfl, fun e1 => ?_, fun e1 => ifF ⟨by simp only [moneyOk, e1, Bool.false_and], X⟩⟩
  refine ⟨_, _, _, _, b.loadAAt 1 [.bool a0, .slice a1p a1n a1c] rfl (by kernel_rfl) rfl, ?_⟩
  have hs : Reps w2 [.bool a0, .slice a1p a1n a1c] [.bool a0, .ints a1z] := ⟨rfl, ⟨_, _, _, rfl, ha.ext X⟩, trivial⟩
  refine Ret.at (impl_IntOk_c hs rfl) ?_
  rintro v w3 ⟨hv, y3⟩
  subst hv
  refine ⟨_, rfl, fun e2 => ⟨_, _, _, (b.ext y3).loadAt 2 rfl (by kernel_rfl) rfl, ?_, X.trans y3⟩, fun e2 => ⟨by simp only [moneyOk, e2, Bool.and_false, Bool.false_and], X.trans y3⟩⟩
  simp only [moneyOk, e1, e2, Bool.true_and]
  congr 1
  simp; omega
end Go.Proofs.YtpaekkcgphljoaaDoor

namespace Go.Proofs.YtpaekkcgphljoaaDoor
open Go Go.Proofs.YtpaekkcgphljoaaDoor.Sx
set_option linter.unusedVariables false
set_option linter.unusedSimpArgs false
def Limbs (l : List Int) : Prop := ∀ x ∈ l, 0 ≤ x ∧ x < 1000000000
/-- no zero on top -/
def Canon (l : List Int) : Prop := Limbs l ∧ l.getLast? ≠ some 0
def digs (n : Nat) : List Int := if h : n = 0 then [] else ((n % 1000000000 : Nat) : Int) :: digs (n / 1000000000)
termination_by n
decreasing_by omega
theorem natOk_spec {l : List Int} : natOk l = true ↔ Canon l ∧ l.length ≤ 50 := by
  unfold natOk Canon Limbs
  simp only [Bool.and_eq_true, List.all_eq_true, isLimb, decide_eq_true_eq, Bool.not_eq_true', decide_eq_false_iff_not]
  constructor
  · rintro ⟨⟨h1, h2⟩, h3⟩
    exact ⟨⟨fun x hx => by have := h1 x hx; omega, h3⟩, h2⟩
  · rintro ⟨⟨h1, h3⟩, h2⟩
    exact ⟨⟨fun x hx => by have := h1 x hx; omega, h2⟩, h3⟩
theorem Limbs.nil : Limbs [] := fun x hx => by simp at hx
theorem Limbs.cons {x : Int} {r : List Int} : Limbs (x :: r) ↔ (0 ≤ x ∧ x < 1000000000) ∧ Limbs r := by simp [Limbs]
theorem Limbs.append {a b : List Int} : Limbs (a ++ b) ↔ Limbs a ∧ Limbs b := by
  simp only [Limbs, List.mem_append]
  exact ⟨fun h => ⟨fun x hx => h x (.inl hx), fun x hx => h x (.inr hx)⟩, fun h x hx => hx.elim (h.1 x) (h.2 x)⟩
theorem Limbs.take {a : List Int} (h : Limbs a) (k : Nat) : Limbs (a.take k) := fun x hx => h x (List.mem_of_mem_take hx)
theorem Limbs.getD {a : List Int} (h : Limbs a) (k : Nat) : 0 ≤ a.getD k 0 ∧ a.getD k 0 < 1000000000 := by
  by_cases hk : k < a.length
  · rw [List.getD_eq_getElem?_getD, List.getElem?_eq_getElem hk]
    exact h _ (List.getElem_mem hk)
  · rw [getD_beyond (by omega)]; omega
theorem Canon.cons {x : Int} {r : List Int} (h : Canon (x :: r)) : (0 ≤ x ∧ x < 1000000000) ∧ Canon r ∧ (r = [] → x ≠ 0) := by
  obtain ⟨h1, h2⟩ := h
  have h1 := Limbs.cons.1 h1
  refine ⟨h1.1, ⟨h1.2, ?_⟩, fun e => ?_⟩
  · intro e
    rw [List.getLast?_cons, e] at h2
    simp at h2
  · subst e; simpa using h2
end Go.Proofs.YtpaekkcgphljoaaDoor

namespace Go.Proofs.YtpaekkcgphljoaaDoor
open Go Go.Proofs.YtpaekkcgphljoaaDoor.Sx
set_option linter.unusedVariables false
set_option linter.unusedSimpArgs false
/-- an empty slice that is new -/
theorem Sx.Own.fresh {w w1 : World} {r : Nat} (hn : New w (.cells ⟨[]⟩ T_int (0, 0)) r w1) : Own w1 w.heap.size T_int 1 (some ⟨r, 0, none⟩) 0 0 (([] : List Int).map (Value.int .i64)) :=
  Own.of_blk (n := 0) hn.blk (by rw [hn.r_eq]; exact Nat.le_refl _) rfl (by simp [maxLen])
/-- the first elements -/
theorem Sx.Own.sub {w : World} {base : Nat} {p : Option Addr} {n c m : Nat} {zs : List Int} (h : Own w base T_int 1 p n c (zs.map (Value.int .i64))) (hm : m ≤ n) : Own w base T_int 1 p m c ((zs.take m).map (Value.int .i64)) := by
  have hl := h.1
  simp only [List.length_map, Nat.mul_one] at hl
  refine ⟨by simp; omega, ?_⟩
  rcases h.2 with ⟨h1, h2⟩ | ⟨g, cap, cur, h1, h2, h3, h4, h5, h6, h7⟩
  · simp only [Value.slice.injEq] at h1
    left
    exact ⟨by rw [h1.1, h1.2.2, show m = 0 by omega], by omega⟩
  · simp only [Value.slice.injEq] at h1
    right
    refine ⟨g, cap, cur, by rw [h1.1, h1.2.2], h2, h3, by omega, h5, h6, ?_⟩
    rw [List.map_take, ← h7, List.take_take]
    congr 1
    omega
theorem Sx.IntsR.sub {w : World} {p : Option Addr} {n c m : Nat} {zs : List Int} (h : IntsR w p n c zs) (hm : m ≤ n) : IntsR w p m c (zs.take m) :=
  ⟨by simp [h.1]; omega, by have := h.2.1; omega, h.2.2.1, fun h0 => let ⟨b, off, hp, hs⟩ := h.2.2.2 (by omega); ⟨b, off, hp, by rw [List.map_take]; exact hs.take m⟩⟩
end Go.Proofs.YtpaekkcgphljoaaDoor

namespace Go.Proofs.YtpaekkcgphljoaaDoor
open Go Go.Proofs.YtpaekkcgphljoaaDoor.Sx
set_option linter.unusedVariables false
set_option linter.unusedSimpArgs false
/-- an integer as its parts -/
def enc (z : Int) : List D0 := [.bool (decide (z < 0)), .ints (digs z.natAbs)]
end Go.Proofs.YtpaekkcgphljoaaDoor

namespace Go.Proofs.YtpaekkcgphljoaaDoor
open Go Go.Proofs.YtpaekkcgphljoaaDoor.Sx
set_option linter.unusedVariables false
set_option linter.unusedSimpArgs false
theorem Limbs.set {l : List Int} {k : Nat} {x : Int} (h : Limbs l) (hx : 0 ≤ x ∧ x < 1000000000) : Limbs (l.set k x) := fun y hy => by
  rcases List.mem_or_eq_of_mem_set hy with h1 | h1
  · exact h y h1
  · rw [h1]; exact hx
end Go.Proofs.YtpaekkcgphljoaaDoor

namespace Go.Proofs.YtpaekkcgphljoaaDoor
open Go Go.Proofs.YtpaekkcgphljoaaDoor.Sx
set_option linter.unusedVariables false
set_option linter.unusedSimpArgs false
def decOk : List D0 → Bool
  | [.bool b, .ints z, .int s] => intOk [.bool b, .ints z] && decide (z.length ≤ 6) && decide (0 ≤ s ∧ s ≤ 30)
  | _ => false
theorem impl_isScale_c (s : Int) (w : World) : Ret P n_impl_isScale [.int .i64 s] w fun v w' => v = .bool (decide (0 ≤ s ∧ s ≤ 30)) ∧ w' = w := by
  refine impl_isScale_ret ?_
  unfold impl_isScale
  refine ifD (fun h => ⟨?_, rfl⟩) (fun h => ⟨?_, rfl⟩) <;> simp [h]
theorem spec_DecOk_c {w : World} {xs : List Value} {dx : List D0} (h : Reps w xs dx) (hc : dx.map D0.code = [.bool, .ints, .int]) :
    Ret P n_spec_DecOk [.agg ⟨xs⟩] w fun v w' => v = .bool (decOk dx) ∧ Ext w w' := by
  obtain ⟨a0, a1p, a1n, a1c, a1z, a2, rfl, rfl, ha⟩ := open_Dec h hc
  refine spec_DecOk_ret ?_
  unfold spec_DecOk
  intro r w1 hn1
  have x := hn1.ext
  have hl := ha.1
  refine ⟨_, _, _, _, hn1.blk.loadAAt 0 [.bool a0, .slice a1p a1n a1c] rfl (by kernel_rfl) rfl, ?_⟩
  refine Ret.at (spec_IntOk_c (dx := [.bool a0, .ints a1z]) ⟨rfl, ⟨_, _, _, rfl, ha.ext x⟩, trivial⟩ rfl) ?_
  rintro v w2 ⟨hv, y⟩
  subst hv
  have x := x.trans y; have b := hn1.blk.ext y
  refine ⟨_, rfl, fun e => ⟨_, _, _, b.loadAt 1 rfl (by kernel_rfl) rfl, ifD (fun hle => ?_) (fun hgt => ⟨?_, x⟩)⟩, fun e => ifF ⟨?_, x⟩⟩
  · refine ⟨_, b.loadAt 2 rfl (by kernel_rfl) rfl, ?_⟩
    refine Ret.at (spec_l01In_c a2 0 30 w2) ?_
    rintro v w3 ⟨hv, hw⟩
    subst hv; subst hw
    exact ⟨_, rfl, by simp only [decOk, e, show decide (a1z.length ≤ 6) = true by simp; omega, Bool.true_and], x⟩
  · simp only [decOk, show decide (a1z.length ≤ 6) = false by simp; omega, Bool.and_false, Bool.false_and]
  · simp only [decOk, e, Bool.false_and]
theorem impl_DecOk_c {w : World} {xs : List Value} {dx : List D0} (h : Reps w xs dx) (hc : dx.map D0.code = [.bool, .ints, .int]) :
    Ret P n_impl_DecOk [.agg ⟨xs⟩] w fun v w' => v = .bool (decOk dx) ∧ Ext w w' := by
  obtain ⟨a0, a1p, a1n, a1c, a1z, a2, rfl, rfl, ha⟩ := open_Dec h hc
  refine impl_DecOk_ret ?_
  unfold impl_DecOk
  intro r w1 hn1
  have x := hn1.ext
  have hl := ha.1
  refine ⟨_, _, _, _, hn1.blk.loadAAt 0 [.bool a0, .slice a1p a1n a1c] rfl (by kernel_rfl) rfl, ?_⟩
  refine Ret.at (impl_IntOk_c (dx := [.bool a0, .ints a1z]) ⟨rfl, ⟨_, _, _, rfl, ha.ext x⟩, trivial⟩ rfl) ?_
  rintro v w2 ⟨hv, y⟩
  subst hv
  have x := x.trans y; have b := hn1.blk.ext y
  refine ⟨_, rfl, fun e => ⟨_, _, _, b.loadAt 1 rfl (by kernel_rfl) rfl, ifD (fun hle => ?_) (fun hgt => ⟨?_, x⟩)⟩, fun e => ifF ⟨?_, x⟩⟩
  · refine ⟨_, b.loadAt 2 rfl (by kernel_rfl) rfl, ?_⟩
    refine Ret.at (impl_isScale_c a2 w2) ?_
    rintro v w3 ⟨hv, hw⟩
    subst hv; subst hw
    exact ⟨_, rfl, by simp only [decOk, e, show decide (a1z.length ≤ 6) = true by simp; omega, Bool.true_and], x⟩
  · simp only [decOk, show decide (a1z.length ≤ 6) = false by simp; omega, Bool.and_false, Bool.false_and]
  · simp only [decOk, e, Bool.false_and]
end Go.Proofs.YtpaekkcgphljoaaDoor

namespace Go.Proofs.YtpaekkcgphljoaaDoor.Sx
open Go
set_option linter.unusedVariables false
set_option linter.unusedSimpArgs false
theorem Owns.done {w : World} {B : Nat} {vs : List Value} {ds : List D0} {f : List Nat} (h : Owns w B vs ds f) (hc : ds.map D0.code = []) : vs = [] ∧ ds = [] ∧ f = [] := by
  match vs, ds, h, hc with
  | [], [], h, _ => exact ⟨rfl, rfl, h⟩
  | v :: us, [], h, _ => exact h.elim
theorem Own.blk {w : World} {B : Nat} {e : TypeId} {size : Nat} {p : Option Addr} {n c : Nat} {xs : List Value} (h : Own w B e size p n c xs) (hn : 0 < n) :
    ∃ b ys, p = some ⟨b, 0, none⟩ ∧ B ≤ b ∧ Blk w b e ys ∧ ys.length = c * size ∧ n ≤ c ∧ c ≤ maxLen ∧ ys.take (n * size) = xs := by
  rcases h.2 with ⟨h1, h2⟩ | ⟨g, cap, cur, h1, hb, hg, h3, h4, h5, h6⟩
  · omega
  · simp only [Value.slice.injEq] at h1
    obtain ⟨e1, _, e3⟩ := h1
    have e3 : c = cap := by omega
    subst e3
    exact ⟨g, cur.toList, e1, hb, hg, by simpa using h5, h3, h4, h6⟩
theorem Own.of_blk' {w : World} {B : Nat} {e : TypeId} {size : Nat} {b n c : Nat} {ys : List Value} (h : Blk w b e ys) (hb : B ≤ b) (hl : ys.length = c * size) (hn : n ≤ c) (hc : c ≤ maxLen) : Own w B e size (some ⟨b, 0, none⟩) n c (ys.take (n * size)) :=
  ⟨by
    have : n * size ≤ c * size := Nat.mul_le_mul_right _ hn
    simp; omega, .inr ⟨b, c, ⟨ys⟩, rfl, hb, h, hn, hc, by simpa using hl, rfl⟩⟩
/-- a cell of one's own slice is stored -/
theorem Own.set {P : Program} {w : World} {B : Nat} {e : TypeId} {size : Nat} {p : Option Addr} {n c : Nat} {xs : List Value} (h : Own w B e size p n c xs) {t : TypeId} {i : Nat} {v : Value} (hi : i < xs.length) (ht : cellT P t = true) (hv : v.oneCell' = true) :
    ∃ b w', p = some ⟨b, 0, none⟩ ∧ Stores P t ((⟨b, 0, none⟩ : Addr).add i) v w w' ∧ Own w' B e size p n c (xs.set i v) ∧ Chg (p.map (·.block)).toList w w' ∧ w'.heap.size = w.heap.size := by
  have hl := h.len
  have hn : 0 < n := by
    rcases Nat.eq_zero_or_pos n with h0 | h0
    · subst h0; simp at hl; rw [hl] at hi; simp at hi
    · exact h0
  obtain ⟨b, ys, rfl, hb, hblk, hyl, hnc, hc, hx⟩ := h.blk hn
  have hle : n * size ≤ c * size := Nat.mul_le_mul_right _ hnc
  obtain ⟨w', st, hb', ch, sz⟩ := hblk.store (P := P) (t := t) (k := i) (v := v) ht (by omega) hv
  refine ⟨b, w', rfl, st, ?_, by simpa using ch, sz⟩
  have := Own.of_blk' (n := n) hb' hb (by simpa using hyl) hnc hc
  rw [List.take_set, hx] at this
  exact this
theorem AllO.set {S : List Nat} {w w' : World} {B k : Nat} {cs' : List Value} {x' : List D0} (hc : Chg S w w') (hk : cs'.length = k) : ∀ {css : List (List Value)} {l : List (List D0)} {fs : List (List Nat)}, AllO w B k css l fs → ∀ (i : Nat) (fi : List Nat), fs[i]? = some fi →
    Owns w' B cs' x' fi → (∀ (j : Nat) (f : List Nat), j ≠ i → fs[j]? = some f → ∀ y ∈ f, y ∉ S) → AllO w' B k (css.set i cs') (l.set i x') fs
  | [], [], [], _, i, fi, hx, _, _ => by simp at hx
  | cs :: css, y :: l, f :: fs, h, 0, fi, hx, ho, hS => by
    simp only [List.getElem?_cons_zero, Option.some.injEq] at hx
    subst hx
    refine ⟨hk, ho, h.2.2.chg hc fun y hy => ?_⟩
    obtain ⟨f', hf, hyf⟩ := List.mem_flatten.1 hy
    obtain ⟨j, hj, e⟩ := List.getElem_of_mem hf
    exact hS (j + 1) f' (by omega) (by simp [List.getElem?_eq_getElem hj, e]) y hyf
  | cs :: css, y :: l, f :: fs, h, i + 1, fi, hx, ho, hS => by
    simp only [List.getElem?_cons_succ] at hx
    refine ⟨h.1, h.2.1.chg hc fun y hy => hS 0 f (by omega) rfl y hy, AllO.set hc hk h.2.2 i fi hx ho fun j f' hj hf => hS (j + 1) f' (by omega) (by simpa using hf)⟩
  | [], [], _ :: _, h, _, _, _, _, _ => h.elim
  | [], _ :: _, _, h, _, _, _, _, _ => h.elim
  | _ :: _, [], _, h, _, _, _, _, _ => h.elim
  | _ :: _, _ :: _, [], h, _, _, _, _, _ => h.elim
end Go.Proofs.YtpaekkcgphljoaaDoor.Sx

namespace Go.Proofs.YtpaekkcgphljoaaDoor
open Go Go.Proofs.YtpaekkcgphljoaaDoor.Sx
set_option linter.unusedVariables false
set_option linter.unusedSimpArgs false
theorem convs_bytes {w : World} {s e d ee : TypeId} {r : Nat} (xs : List Int) (hs : P.underlying s = some (.slice e)) (he : P.underlying e = some (.int .u8)) (hd : P.underlying d = some .string) (hb : Blk w r ee (xs.map (Value.int .u8))) :
    Convs P s d (.slice (some ⟨r, 0, none⟩) xs.length xs.length) (.string (strOfNums xs)) w :=
  run_convert_bytes_arg w s e hs he r 0 xs.length xs.length xs rfl (fun i hi => by
    have := hb.seg i (.int .u8 (xs.getD i 0)) (by simp [List.getD_eq_getElem?_getD, List.getElem?_eq_getElem hi])
    simpa using this) d hd
end Go.Proofs.YtpaekkcgphljoaaDoor

namespace Go.Proofs.YtpaekkcgphljoaaDoor
open Go Go.Proofs.YtpaekkcgphljoaaDoor.Sx
set_option linter.unusedVariables false
set_option linter.unusedSimpArgs false
/-- the table of powers of ten lies in its variable -/
def TabP (w : World) : Prop := Lib.TabIs P w "internal/strconv.uint64pow10" .u64 Lib.pow10Tab
theorem TabP.ext {w w' : World} (h : TabP w) (he : Ext w w') : TabP w' := Joins.tab_stays lays171.m17 h he (Nat.le_refl _)
theorem X105 : Go.Proofs.Builder.Extra P ren105 where
  sizeBuilder := by kernel_rfl
  liesBuilder := by kernel_rfl
  t5 := lays105.t5
  a5 := lays105.a5
  z5 := lays105.z5
  v5 := lays105.v5
  infoByte := by kernel_rfl
  cellsByte := by kernel_rfl
  sizeByte := by kernel_rfl
  neB5 := by decide
theorem ba_ext {a b : ByteArray} (h : a.data.toList = b.data.toList) : a = b := by
  obtain ⟨⟨x⟩⟩ := a; obtain ⟨⟨y⟩⟩ := b
  simp at h; subst h; rfl
theorem ba_append_empty (a : ByteArray) : a ++ ByteArray.empty = a := ba_ext (by simp)
/-- a number in decimal -/
def itxt (u : Nat) : ByteArray := ⟨(Lib.decDigits u).toArray⟩
theorem decDigits_small {u : Nat} (h : u < 10) : Lib.decDigits u = [UInt8.ofNat (48 + u)] := by rw [Lib.decDigits, dif_pos h]
theorem decDigits_big {u : Nat} (h : ¬ u < 10) : Lib.decDigits u = Lib.decDigits (u / 10) ++ [UInt8.ofNat (48 + u % 10)] := by rw [Lib.decDigits, dif_neg h]
theorem itxt_small {u : Nat} (h : u < 10) : itxt u = strOfNums [((48 + u : Nat) : Int)] := ba_ext (by rw [strOfNums_data, itxt, decDigits_small h]; rfl)
theorem itxt_big {u : Nat} (h : ¬ u < 10) : itxt u = itxt (u / 10) ++ strOfNums [((48 + u % 10 : Nat) : Int)] := ba_ext (by
  have e : (itxt u).data.toList = Lib.decDigits u := by simp [itxt]
  have e1 : (itxt (u / 10)).data.toList = Lib.decDigits (u / 10) := by simp [itxt]
  rw [e, decDigits_big h, ByteArray.data_append, Array.toList_append, e1, strOfNums_data]; rfl)
theorem itxt_lt : ∀ (k : Nat) {u : Nat}, u < 10 ^ (k + 1) → (itxt u).size ≤ k + 1
  | 0, u, h => by rw [itxt_small (by simpa using h), strOfNums_size]; simp
  | k + 1, u, h => by
    by_cases h1 : u < 10
    · rw [itxt_small h1, strOfNums_size]; simp
    · have h2 : u / 10 < 10 ^ (k + 1) := by rw [Nat.pow_succ] at h; omega
      have := itxt_lt k h2
      rw [itxt_big h1, ByteArray.size_append, strOfNums_size]
      simp; omega
theorem itxt_limb {u : Nat} (h : u < 1000000000) : (itxt u).size ≤ 9 := itxt_lt 8 (by simpa using h)
theorem spec_IntText_c {w : World} {n : Int} (h0 : 0 ≤ n) (h1 : n ≤ 9223372036854775806) : Ret P n_spec_IntText [.int .i64 n] w fun v w' => v = .string (itxt n.toNat) ∧ Ext w w' := by
  refine spec_IntText_ret ?_
  unfold spec_IntText
  refine ifD (fun h => absurd h (by omega)) (fun _ => ?_)
  refine ⟨fun k s wr => 0 ≤ k ∧ k ≤ n ∧ (s.size : Int) + k ≤ n ∧ itxt n.toNat = itxt k.toNat ++ s ∧ Ext w wr, fun k _ _ => k.toNat, ⟨by omega, by omega, by show ((0 : Nat) : Int) + n ≤ n; omega, (ba_append_empty _).symm, Ext.refl _⟩, ?_⟩
  intro junk wr k s ⟨hk0, hk1, hsz, ht, hx⟩
  have wu : ∀ z : Int, 0 ≤ z → z < 256 → IntKind.wrap .u8 z = z := fun z h0 h1 => by
    simp only [IntKind.wrap, IntKind.bits, IntKind.signed]
    simp
    omega
  refine ifD (fun hbig => ?_) (fun hsmall => ?_)
  · refine ⟨by decide, _, rfl, ?_⟩
    rw [Int.tmod_eq_emod_of_nonneg hk0]
    refine exW ⟨by omega, by omega⟩ ⟨_, rfl, ?_⟩
    rw [wu _ (by omega) (by omega)]
    intro r w1 hn
    refine ⟨_, convs_bytes (ee := T_uint8) [48 + k % 10] (e := T_uint8) (by kernel_rfl) (by kernel_rfl) (by kernel_rfl) hn.blk, ?_, _, rfl, by decide, ?_⟩
    · rw [strOfNums_size]; simp; omega
    rw [Int.tdiv_eq_ediv_of_nonneg hk0]
    refine exW ⟨by omega, by omega⟩ ⟨⟨by omega, by omega, ?_, ?_, hx.trans hn.ext⟩, ?_⟩
    · rw [ByteArray.size_append, strOfNums_size]; simp; omega
    · rw [ht, itxt_big (u := k.toNat) (by omega), ByteArray.append_assoc]
      have e1 : (k / 10).toNat = k.toNat / 10 := by omega
      have e2 : (48 + k % 10) = ((48 + k.toNat % 10 : Nat) : Int) := by omega
      rw [e1, e2]
    · show (k / 10).toNat < k.toNat
      omega
  · refine exW ⟨by omega, by omega⟩ ⟨_, rfl, ?_⟩
    rw [wu _ (by omega) (by omega)]
    intro r w1 hn
    refine ⟨_, convs_bytes (ee := T_uint8) [48 + k] (e := T_uint8) (by kernel_rfl) (by kernel_rfl) (by kernel_rfl) hn.blk, ?_, _, rfl, ?_, hx.trans hn.ext⟩
    · rw [strOfNums_size]; simp; omega
    · rw [ht, itxt_small (u := k.toNat) (by omega)]
      have e2 : (48 + k) = ((48 + k.toNat : Nat) : Int) := by omega
      rw [e2]
theorem impl_IntText_c {w : World} {n : Int} (ht : TabP w) (h0 : 0 ≤ n) (h1 : n ≤ 9223372036854775807) : Ret P n_impl_IntText [.int .i64 n] w fun v w' => v = .string (itxt n.toNat) ∧ Ext w w' := by
  refine impl_IntText_ret ?_
  unfold impl_IntText
  obtain ⟨u, rfl⟩ : ∃ u : Nat, n = u := ⟨n.toNat, by omega⟩
  refine (Any.strconv_Itoa lays171 (u : Int) (by omega) h1 w ht).mono ?_
  rintro e w' ⟨rfl, k, os, rfl⟩
  rw [Lib.itoa_nonneg]
  exact ⟨_, rfl, rfl, Lib.below_grow _ _ (Nat.le_refl _) _ _⟩
def zeros (k : Nat) : ByteArray := ⟨(List.replicate k (48 : UInt8)).toArray⟩
def padT (s : ByteArray) (n : Int) : ByteArray := if n ≤ (s.size : Nat) ∨ 2000 < n then s else zeros (n - (s.size : Nat)).toNat ++ s
theorem zeros_size (k : Nat) : (zeros k).size = k := by simp [zeros, ByteArray.size]
theorem zeros_succ (k : Nat) : zeros (k + 1) = S [48] ++ zeros k := ba_ext (by simp [zeros, List.replicate_succ, Sx.S])
theorem zeros_zero (s : ByteArray) : zeros 0 ++ s = s := ba_ext (by simp [zeros])
theorem padT_le {s : ByteArray} {n : Int} {k : Nat} (h1 : s.size ≤ k) (h2 : n ≤ k) : (padT s n).size ≤ k := by
  unfold padT
  split
  · exact h1
  · rw [ByteArray.size_append, zeros_size]; omega
theorem padT_ge {s : ByteArray} {n : Int} (h : n ≤ 2000) : n ≤ ((padT s n).size : Nat) := by
  unfold padT
  split
  · omega
  · rw [ByteArray.size_append, zeros_size]; omega
theorem repeat_zeros (c : Nat) : (⟨(Lib.repeatL (S [48]).data.toList c).toArray⟩ : ByteArray) = zeros c := by
  have : ∀ c, Lib.repeatL (S [48]).data.toList c = List.replicate c (48 : UInt8) := fun c => by
    induction c with
    | zero => rfl
    | succ c ih => rw [Lib.repeatL, ih]; rfl
  rw [this]; rfl
theorem spec_Pad_c {w : World} (s : ByteArray) (n : Int) (hs : s.size ≤ 4611686018427387904) (hn : -4611686018427387904 ≤ n) : Ret P n_spec_Pad [.string s, .int .i64 n] w fun v w' => v = .string (padT s n) ∧ w' = w := by
  refine spec_Pad_ret ?_
  unfold spec_Pad
  refine ifD (fun h => ⟨by rw [padT, if_pos (.inr h)], rfl⟩) (fun h => ?_)
  refine ⟨fun s1 wr => ∃ k : Nat, k ≤ (n - (s.size : Nat)).toNat ∧ s1 = zeros k ++ s ∧ wr = w, fun s1 _ => (n - (s1.size : Nat)).toNat, ⟨0, by omega, (zeros_zero s).symm, rfl⟩, ?_⟩
  intro junk wr s1 ⟨k, hk, hs1, hw⟩
  subst hs1; subst hw
  have hsz : (zeros k ++ s).size = k + s.size := by rw [ByteArray.size_append, zeros_size]
  rw [hsz]
  refine ifD (fun hlt => ?_) (fun hge => ⟨?_, rfl⟩)
  · refine ⟨?_, _, rfl, ⟨k + 1, by omega, by rw [zeros_succ, ByteArray.append_assoc], rfl⟩, ?_⟩
    · show 1 + (k + s.size) ≤ 9223372036854775807
      omega
    · show (n - ((S [48] ++ (zeros k ++ s)).size : Nat)).toNat < (n - ((zeros k ++ s).size : Nat)).toNat
      rw [ByteArray.size_append, hsz]
      show (n - ((1 + (k + s.size) : Nat) : Int)).toNat < _
      omega
  · unfold padT
    by_cases h2 : n ≤ (s.size : Nat)
    · rw [if_pos (.inl h2)]
      have : k = 0 := by omega
      rw [this, zeros_zero]
    · rw [if_neg (by omega)]
      have : k = (n - (s.size : Nat)).toNat := by omega
      rw [this]
theorem impl_Pad_c {w : World} (s : ByteArray) (n : Int) (hs : s.size ≤ 4611686018427387904) (hn : -4611686018427387904 ≤ n) : Ret P n_impl_Pad [.string s, .int .i64 n] w fun v w' => v = .string (padT s n) ∧ Ext w w' := by
  refine impl_Pad_ret ?_
  unfold impl_Pad
  refine ifD (fun h => ifT ⟨by rw [padT, if_pos (.inl h)], Ext.refl _⟩) (fun h => ifD (fun h2 => ⟨by rw [padT, if_pos (.inr h2)], Ext.refl _⟩) (fun h2 => ?_))
  refine exW ⟨by omega, by omega⟩ ?_
  obtain ⟨c, hc⟩ : ∃ c : Nat, n - (s.size : Nat) = c := ⟨(n - (s.size : Nat)).toNat, by omega⟩
  rw [hc]
  refine (Any.strings_Repeat lays105 X105 (S [48]) c w (by omega) (by show 1 * c ≤ 140737488355328; omega)).mono ?_
  rintro e w' ⟨rfl, hx⟩
  rw [repeat_zeros]
  refine ⟨_, rfl, ?_, _, rfl, ?_, hx⟩
  · rw [zeros_size]; omega
  · rw [padT, if_neg (by omega), hc]; rfl
def natR : List Int → ByteArray
  | [] => ByteArray.empty
  | x :: r => padT (itxt x.toNat) 9 ++ natR r
def natT (l : List Int) : ByteArray := match l.reverse with
  | [] => S [48]
  | x :: r => itxt x.toNat ++ natR r
theorem limb_text {x : Int} (h : 0 ≤ x ∧ x < 1000000000) : (itxt x.toNat).size ≤ 9 ∧ (padT (itxt x.toNat) 9).size ≤ 9 :=
  have h1 := itxt_limb (u := x.toNat) (by omega)
  ⟨h1, padT_le h1 (by decide)⟩
theorem natR_size : ∀ {l : List Int}, Limbs l → (natR l).size ≤ l.length * 9
  | [], _ => by simp [natR]
  | x :: r, h => by
    have h := Limbs.cons.1 h
    have h1 := natR_size h.2; have h2 := (limb_text h.1).2
    rw [natR, ByteArray.size_append, List.length_cons]
    omega
theorem natT_size {l : List Int} (h : Limbs l) : (natT l).size ≤ l.length * 9 + 1 := by
  unfold natT
  cases e : l.reverse with
  | nil => show 1 ≤ _; omega
  | cons x r =>
    have hl : l.length = r.length + 1 := by rw [← List.length_reverse, e]; rfl
    have hh : Limbs (x :: r) := fun y hy => h y (by rw [← List.mem_reverse, e]; exact hy)
    have hh := Limbs.cons.1 hh
    have h1 := natR_size hh.2; have h2 := (limb_text hh.1).1
    show (itxt x.toNat ++ natR r).size ≤ _
    rw [ByteArray.size_append, hl]; omega
theorem rev_take_succ {l : List Int} {t : Nat} (h : t < l.length) : (l.take (t + 1)).reverse = l.getD t 0 :: (l.take t).reverse := by
  rw [List.take_add_one, List.getElem?_eq_getElem h, List.getD_eq_getElem?_getD, List.getElem?_eq_getElem h]
  simp
theorem natT_top {l : List Int} {n : Nat} (h : l.length = n + 1) : natT l = itxt (l.getD n 0).toNat ++ natR (l.take n).reverse := by
  have := rev_take_succ (l := l) (t := n) (by omega)
  rw [List.take_of_length_le (by omega)] at this
  unfold natT
  rw [this]
theorem impl_natText_c {w : World} {p : Option Addr} {n c : Nat} {z : List Int} (h : IntsR w p n c z) (hlz : Limbs z) (hn : n ≤ 1000) (ht : TabP w) :
    Ret P n_impl_natText [.slice p n c] w fun v w' => v = .string (natT z) ∧ Ext w w' := by
  refine impl_natText_ret ?_
  unfold impl_natText
  have hlen := h.1
  have XS := Ext.refl w
  refine ifD (fun h0 => ⟨?_, XS⟩) (fun h0 => ?_)
  · rw [List.eq_nil_of_length_eq_zero (show z.length = 0 by omega)]; rfl
  · skip
    obtain ⟨m, rfl⟩ : ∃ m, n = m + 1 := ⟨n - 1, by omega⟩
    have e1 : ((m + 1 : Nat) : Int) - 1 = (m : Int) := by omega
    have e2 : ((m + 1 : Nat) : Int) - 2 = (m : Int) - 1 := by omega
    rw [e1, e2]
    have T := hlz.getD m
    obtain ⟨ad, rfl, hl⟩ := ints_at (h.ext XS) (i := (m : Int)) (by omega) (by omega)
    simp only [Int.toNat_natCast] at hl
    refine exW ⟨by omega, by omega⟩ ⟨⟨by omega, by omega⟩, _, by simpa only [Int.toNat_natCast] using hl, ?_⟩
    refine Ret.at (impl_IntText_c (ht.ext XS) T.1 (by omega)) ?_
    rintro v w2 ⟨hv, y2⟩
    subst hv
    refine ⟨_, rfl, exW ⟨by omega, by omega⟩ ⟨fun text i wr => ∃ s : Nat, i = (s : Int) - 1 ∧ s ≤ m ∧ text.size ≤ (m - s) * 9 + 9 ∧ natT z = text ++ natR (z.take s).reverse ∧ Ext w wr, fun _ i _ => (i + 1).toNat,
      ⟨m, rfl, by omega, by have := (limb_text T).1; omega, natT_top hlen, XS.trans y2⟩, ?_⟩⟩
    intro junk wr text i ⟨s, hi, hs, hsz, htx, hx⟩
    subst hi
    refine ifD (fun hpos => ?_) (fun hend => ?_)
    · obtain ⟨t, rfl⟩ : ∃ t, s = t + 1 := ⟨s - 1, by omega⟩
      have e3 : ((t + 1 : Nat) : Int) - 1 = (t : Int) := by omega
      rw [e3]
      have A := hlz.getD t
      have L := limb_text A
      obtain ⟨ad, hp, hl⟩ := ints_at (h.ext hx) (i := (t : Int)) (by omega) (by omega)
      obtain rfl := Option.some.inj hp
      simp only [Int.toNat_natCast] at hl
      refine ⟨⟨by omega, by omega⟩, _, by simpa only [Int.toNat_natCast] using hl, ?_⟩
      refine Ret.at (impl_IntText_c (ht.ext hx) A.1 (by omega)) ?_
      rintro v w3 ⟨hv, y3⟩
      subst hv
      refine ⟨_, rfl, ?_⟩
      refine Ret.at (impl_Pad_c _ 9 (by omega) (by omega)) ?_
      rintro v w4 ⟨hv, y4⟩
      subst hv
      refine ⟨_, rfl, ?_, _, rfl, exW ⟨by omega, by omega⟩ ⟨⟨t, by omega, by omega, ?_, ?_, (hx.trans y3).trans y4⟩, ?_⟩⟩
      · have : (m - (t + 1)) * 9 ≤ m * 9 := Nat.mul_le_mul_right _ (by omega)
        omega
      · rw [ByteArray.size_append]
        have : m - t = (m - (t + 1)) + 1 := by omega
        rw [this]; omega
      · rw [htx, rev_take_succ (by omega), natR, ByteArray.append_assoc]
      · show ((t : Int) - 1 + 1).toNat < ((t : Int) + 1).toNat
        omega
    · have hs0 : s = 0 := by omega
      subst hs0
      refine ⟨?_, hx⟩
      rw [htx]
      simp [natR]
theorem spec_NatText_c {w : World} {p : Option Addr} {n c : Nat} {z : List Int} (h : IntsR w p n c z) :
    Ret P n_spec_NatText [.slice p n c] w fun v w' => v = .string (if natOk z then natT z else S []) ∧ Ext w w' := by
  refine spec_NatText_ret ?_
  unfold spec_NatText
  have hlen := h.1
  refine Ret.at (spec_NatOk_c h) ?_
  rintro v w1 ⟨hv, XS⟩
  subst hv
  refine ⟨_, rfl, ifN (fun e => ⟨by rw [e]; rfl, XS⟩) (fun e => ?_)⟩
  rw [e, if_pos rfl]
  have hlz := (natOk_spec.1 e).1.1; have hn := (natOk_spec.1 e).2
  refine ifD (fun h0 => ⟨?_, XS⟩) (fun h0 => ?_)
  · rw [List.eq_nil_of_length_eq_zero (show z.length = 0 by omega)]; rfl
  · skip
    obtain ⟨m, rfl⟩ : ∃ m, n = m + 1 := ⟨n - 1, by omega⟩
    have e1 : ((m + 1 : Nat) : Int) - 1 = (m : Int) := by omega
    have e2 : ((m + 1 : Nat) : Int) - 2 = (m : Int) - 1 := by omega
    rw [e1, e2]
    have T := hlz.getD m
    obtain ⟨ad, rfl, hl⟩ := ints_at (h.ext XS) (i := (m : Int)) (by omega) (by omega)
    simp only [Int.toNat_natCast] at hl
    refine exW ⟨by omega, by omega⟩ ⟨⟨by omega, by omega⟩, _, by simpa only [Int.toNat_natCast] using hl, ?_⟩
    refine Ret.at (spec_IntText_c T.1 (by omega)) ?_
    rintro v w2 ⟨hv, y2⟩
    subst hv
    refine ⟨_, rfl, exW ⟨by omega, by omega⟩ ⟨fun text i wr => ∃ s : Nat, i = (s : Int) - 1 ∧ s ≤ m ∧ text.size ≤ (m - s) * 9 + 9 ∧ natT z = text ++ natR (z.take s).reverse ∧ Ext w wr, fun _ i _ => (i + 1).toNat,
      ⟨m, rfl, by omega, by have := (limb_text T).1; omega, natT_top hlen, XS.trans y2⟩, ?_⟩⟩
    intro junk wr text i ⟨s, hi, hs, hsz, htx, hx⟩
    subst hi
    refine ifD (fun hpos => ?_) (fun hend => ?_)
    · obtain ⟨t, rfl⟩ : ∃ t, s = t + 1 := ⟨s - 1, by omega⟩
      have e3 : ((t + 1 : Nat) : Int) - 1 = (t : Int) := by omega
      rw [e3]
      have A := hlz.getD t
      have L := limb_text A
      obtain ⟨ad, hp, hl⟩ := ints_at (h.ext hx) (i := (t : Int)) (by omega) (by omega)
      obtain rfl := Option.some.inj hp
      simp only [Int.toNat_natCast] at hl
      refine ⟨⟨by omega, by omega⟩, _, by simpa only [Int.toNat_natCast] using hl, ?_⟩
      refine Ret.at (spec_IntText_c A.1 (by omega)) ?_
      rintro v w3 ⟨hv, y3⟩
      subst hv
      refine ⟨_, rfl, ?_⟩
      refine Ret.at (spec_Pad_c _ 9 (by omega) (by omega)) ?_
      rintro v w4 ⟨hv, y4⟩
      subst hv; subst y4
      refine ⟨_, rfl, ?_, _, rfl, exW ⟨by omega, by omega⟩ ⟨⟨t, by omega, by omega, ?_, ?_, hx.trans y3⟩, ?_⟩⟩
      · have : (m - (t + 1)) * 9 ≤ m * 9 := Nat.mul_le_mul_right _ (by omega)
        omega
      · rw [ByteArray.size_append]
        have : m - t = (m - (t + 1)) + 1 := by omega
        rw [this]; omega
      · rw [htx, rev_take_succ (by omega), natR, ByteArray.append_assoc]
      · show ((t : Int) - 1 + 1).toNat < ((t : Int) + 1).toNat
        omega
    · have hs0 : s = 0 := by omega
      subst hs0
      refine ⟨?_, hx⟩
      rw [htx]
      simp [natR]
def dotT (t : ByteArray) (s : Int) : ByteArray := if 0 < s then (t.extract 0 (((t.size : Nat) : Int) - s).toNat ++ S [46]) ++ t.extract (((t.size : Nat) : Int) - s).toNat t.size else t
def decT : List D0 → ByteArray
  | [.bool b, .ints z, .int s] => if decOk [.bool b, .ints z, .int s] then (if b then S [45] ++ dotT (padT (natT z) (s + 1)) s else dotT (padT (natT z) (s + 1)) s) else S []
  | _ => S []
theorem dotT_size (t : ByteArray) (s : Int) : (dotT t s).size ≤ t.size + 1 := by
  unfold dotT
  split
  · rw [ByteArray.size_append, ByteArray.size_append, ByteArray.size_extract, ByteArray.size_extract]
    show _ + 1 + _ ≤ _
    omega
  · omega
theorem decOk_parts {b : Bool} {z : List Int} {s : Int} (h : decOk [.bool b, .ints z, .int s] = true) : intOk [.bool b, .ints z] = true ∧ natOk z = true ∧ Limbs z ∧ z.length ≤ 6 ∧ 0 ≤ s ∧ s ≤ 30 := by
  simp only [decOk, Bool.and_eq_true, decide_eq_true_eq] at h
  obtain ⟨⟨h1, h2⟩, h3⟩ := h
  have h4 : natOk z = true := by
    have := h1
    simp only [intOk, Bool.and_eq_true] at this
    exact this.1
  exact ⟨h1, h4, (natOk_spec.1 h4).1.1, h2, h3⟩
theorem decT_size (d : List D0) : (decT d).size ≤ 100 := by
  unfold decT
  split
  · rename_i b z s
    split
    · rename_i h
      obtain ⟨_, _, hz, hl, _, _⟩ := decOk_parts h
      have h1 := natT_size hz; have h3 := dotT_size (padT (natT z) (s + 1)) s
      have h2 : (padT (natT z) (s + 1)).size ≤ 60 := padT_le (by omega) (by omega)
      split
      · rw [ByteArray.size_append]
        show 1 + _ ≤ _
        omega
      · omega
    · show 0 ≤ _; omega
  · show 0 ≤ _; omega
theorem impl_DecText_c {w : World} {xs : List Value} {dx : List D0} (h : Reps w xs dx) (hc : dx.map D0.code = [.bool, .ints, .int]) (ht : TabP w) :
    Ret P n_impl_DecText [.agg ⟨xs⟩] w fun v w' => v = .string (decT dx) ∧ Ext w w' := by
  have hr := h
  obtain ⟨a0, a1p, a1n, a1c, a1z, a2, rfl, rfl, ha⟩ := open_Dec h hc
  have hl := ha.1
  refine impl_DecText_ret ?_
  unfold impl_DecText
  intro r w1 hn1
  refine ⟨_, _, _, _, _, hn1.blk.loadA0 (by kernel_rfl), ?_⟩
  refine Ret.at (impl_DecOk_c (hr.ext hn1.ext) rfl) ?_
  rintro v w2 ⟨hv, y2⟩
  subst hv
  have X2 := hn1.ext.trans y2
  refine ⟨_, rfl, ifN (fun e => ⟨by simp only [decT, e, Bool.false_eq_true, if_false], X2⟩) (fun e => ?_)⟩
  obtain ⟨hio, hno, hz, hl6, hs0, hs1⟩ := decOk_parts e
  have D := Ext.drew w2
  have X3 := X2.trans D
  have b := hn1.blk.ext (y2.trans D)
  refine ⟨_, _, _, fun W hW => (b.ext hW).loadAt 1 rfl (by kernel_rfl) rfl, ?_⟩
  refine Ret.at (impl_natText_c (ha.ext X3) hz (by omega) (ht.ext X3)) ?_
  rintro v w4 ⟨hv, y4⟩
  subst hv
  have N1 := natT_size hz
  have N2 : a1z.length * 9 ≤ 6 * 9 := Nat.mul_le_mul_right _ hl6
  refine ⟨_, rfl, y4, _, fun W hW => (b.ext hW).loadAt 2 rfl (by kernel_rfl) rfl, exW ⟨by omega, by omega⟩ ?_⟩
  refine Ret.at (impl_Pad_c _ (a2 + 1) (by omega) (by omega)) ?_
  rintro v w5 ⟨hv, y5⟩
  subst hv
  have Y5 := y4.trans y5
  have N3 : (padT (natT a1z) (a2 + 1)).size ≤ 60 := padT_le (by omega) (by omega)
  have N4 := padT_ge (s := natT a1z) (n := a2 + 1) (by omega)
  have X5 := X3.trans Y5
  have b5 := b.ext Y5
  have fin : ∀ t W, Ext w5 W → t.size ≤ 1000 → t = dotT (padT (natT a1z) (a2 + 1)) a2 → impl_DecText_j0 r t W fun v w' => v = .string (decT [.bool a0, .ints a1z, .int a2]) ∧ Ext w w' := by
    intro t W hW hts ht
    unfold impl_DecText_j0
    refine ⟨_, (b5.ext hW).loadAt 0 rfl (by kernel_rfl) rfl, fun e0 => ?_, fun e0 => ?_⟩
    · refine ⟨?_, _, rfl, ?_⟩
      · show 1 + t.size ≤ 9223372036854775807
        omega
      unfold impl_DecText_j1
      refine ⟨?_, X5.trans hW⟩
      subst e0
      simp only [decT, e, if_true, ht]
    · unfold impl_DecText_j1
      refine ⟨?_, X5.trans hW⟩
      subst e0
      simp only [decT, e, if_true, ht, Bool.false_eq_true, if_false]
  refine ⟨_, rfl, _, b5.loadAt 2 rfl (by kernel_rfl) rfl, ifD (fun hpos => ?_) (fun hz0 => fin _ _ (Ext.refl _) (by omega) (by rw [dotT, if_neg hz0]))⟩
  refine ⟨_, b5.loadAt 2 rfl (by kernel_rfl) rfl, exW ⟨by omega, by omega⟩ ⟨⟨by omega, by omega⟩, ?_, _, rfl, ⟨by omega, by omega⟩, ?_, _, rfl, fin _ _ (Ext.drew _) ?_ (by rw [dotT, if_pos hpos])⟩⟩
  · rw [ByteArray.size_extract]
    show _ + 1 ≤ _
    omega
  · rw [ByteArray.size_append, ByteArray.size_extract, ByteArray.size_extract]
    show _ + 1 + _ ≤ _
    omega
  · rw [ByteArray.size_append, ByteArray.size_append, ByteArray.size_extract, ByteArray.size_extract]
    show _ + 1 + _ ≤ _
    omega
theorem spec_DecText_c {w : World} {xs : List Value} {dx : List D0} (h : Reps w xs dx) (hc : dx.map D0.code = [.bool, .ints, .int]) :
    Ret P n_spec_DecText [.agg ⟨xs⟩] w fun v w' => v = .string (decT dx) ∧ Ext w w' := by
  have hr := h
  obtain ⟨a0, a1p, a1n, a1c, a1z, a2, rfl, rfl, ha⟩ := open_Dec h hc
  have hl := ha.1
  refine spec_DecText_ret ?_
  unfold spec_DecText
  intro r w1 hn1
  refine ⟨_, _, _, _, _, hn1.blk.loadA0 (by kernel_rfl), ?_⟩
  refine Ret.at (spec_DecOk_c (hr.ext hn1.ext) rfl) ?_
  rintro v w2 ⟨hv, y2⟩
  subst hv
  have X2 := hn1.ext.trans y2
  refine ⟨_, rfl, ifN (fun e => ⟨by simp only [decT, e, Bool.false_eq_true, if_false], X2⟩) (fun e => ?_)⟩
  obtain ⟨hio, hno, hz, hl6, hs0, hs1⟩ := decOk_parts e
  have D := Ext.drew w2
  have X3 := X2.trans D
  have b := hn1.blk.ext (y2.trans D)
  refine ⟨_, _, _, fun W hW => (b.ext hW).loadAt 1 rfl (by kernel_rfl) rfl, ?_⟩
  refine Ret.at (spec_NatText_c (ha.ext X3)) ?_
  rintro v w4 ⟨hv, y4⟩
  subst hv
  rw [hno, if_pos rfl]
  have N1 := natT_size hz
  have N2 : a1z.length * 9 ≤ 6 * 9 := Nat.mul_le_mul_right _ hl6
  refine ⟨_, rfl, y4, _, fun W hW => (b.ext hW).loadAt 2 rfl (by kernel_rfl) rfl, exW ⟨by omega, by omega⟩ ?_⟩
  refine Ret.at (spec_Pad_c _ (a2 + 1) (by omega) (by omega)) ?_
  rintro v w5 ⟨hv, y5⟩
  subst hv
  subst y5
  have Y5 := y4
  have N3 : (padT (natT a1z) (a2 + 1)).size ≤ 60 := padT_le (by omega) (by omega)
  have N4 := padT_ge (s := natT a1z) (n := a2 + 1) (by omega)
  have X5 := X3.trans Y5
  have b5 := b.ext Y5
  have fin : ∀ t W, Ext w5 W → t.size ≤ 1000 → t = dotT (padT (natT a1z) (a2 + 1)) a2 → spec_DecText_j0 r t W fun v w' => v = .string (decT [.bool a0, .ints a1z, .int a2]) ∧ Ext w w' := by
    intro t W hW hts ht
    unfold spec_DecText_j0
    refine ⟨_, (b5.ext hW).loadAt 0 rfl (by kernel_rfl) rfl, fun e0 => ?_, fun e0 => ?_⟩
    · refine ⟨?_, _, rfl, ?_⟩
      · show 1 + t.size ≤ 9223372036854775807
        omega
      refine ⟨?_, X5.trans hW⟩
      subst e0
      simp only [decT, e, if_true, ht]
    · skip
      refine ⟨?_, X5.trans hW⟩
      subst e0
      simp only [decT, e, if_true, ht, Bool.false_eq_true, if_false]
  refine ⟨_, rfl, _, b5.loadAt 2 rfl (by kernel_rfl) rfl, ifD (fun hpos => ?_) (fun hz0 => fin _ _ (Ext.refl _) (by omega) (by rw [dotT, if_neg hz0]))⟩
  refine ⟨_, b5.loadAt 2 rfl (by kernel_rfl) rfl, exW ⟨by omega, by omega⟩ ⟨⟨by omega, by omega⟩, ?_, _, rfl, ⟨by omega, by omega⟩, ?_, _, rfl, fin _ _ (Ext.drew _) ?_ (by rw [dotT, if_pos hpos])⟩⟩
  · rw [ByteArray.size_extract]
    show _ + 1 ≤ _
    omega
  · rw [ByteArray.size_append, ByteArray.size_extract, ByteArray.size_extract]
    show _ + 1 + _ ≤ _
    omega
  · rw [ByteArray.size_append, ByteArray.size_append, ByteArray.size_extract, ByteArray.size_extract]
    show _ + 1 + _ ≤ _
    omega
theorem find_cases : ∀ (l : List CurRow) (c : ByteArray), (∃ r ∈ l, r.1 = c ∧ curFind l c = r) ∨ ((∀ r ∈ l, r.1 ≠ c) ∧ curFind l c = curZero)
  | [], c => .inr ⟨fun r hr => by simp at hr, rfl⟩
  | r :: l, c => by
    by_cases h : r.1 = c
    · exact .inl ⟨r, .head _, h, by rw [curFind, if_pos h]⟩
    · rcases find_cases l c with ⟨x, hx, h1, h2⟩ | ⟨h1, h2⟩
      · exact .inl ⟨x, .tail _ hx, h1, by rw [curFind, if_neg h, h2]⟩
      · refine .inr ⟨fun x hx => ?_, by rw [curFind, if_neg h, h2]⟩
        rcases List.mem_cons.1 hx with e | e
        · rw [e]; exact h
        · exact h1 x e
theorem find_same (c : ByteArray) : curFind specTab c = curFind implTab c := by
  have h1 : (implTab.all fun r => specTab.any fun q => decide (q = r)) = true := by decide +kernel
  have h2 : (specTab.all fun r => implTab.any fun q => decide (q.1 = r.1)) = true := by decide +kernel
  have h3 : (specTab.all fun r => specTab.all fun q => !(decide (q.1 = r.1)) || decide (q = r)) = true := by decide +kernel
  rw [List.all_eq_true] at h1 h2 h3
  rcases find_cases implTab c with ⟨r, hr, e1, e2⟩ | ⟨e1, e2⟩
  · have := h1 r hr
    rw [List.any_eq_true] at this
    obtain ⟨q, hq, he⟩ := this
    have he := of_decide_eq_true he
    subst he
    rcases find_cases specTab c with ⟨x, hx, f1, f2⟩ | ⟨f1, f2⟩
    · have := h3 q hq
      rw [List.all_eq_true] at this
      have := this x hx
      rw [f1, e1] at this
      simp at this
      rw [e2, f2, this]
    · exact absurd e1 (f1 q hq)
  · rcases find_cases specTab c with ⟨x, hx, f1, f2⟩ | ⟨f1, f2⟩
    · have := h2 x hx
      rw [List.any_eq_true] at this
      obtain ⟨q, hq, he⟩ := this
      exact absurd ((of_decide_eq_true he).trans f1) (e1 q hq)
    · rw [e2, f2]
def curPlaces (c : ByteArray) : Int := (curFind implTab c).2.2.1
def moneyT : List D0 → ByteArray
  | [.str c, .bool b, .ints z] => if moneyOk [.str c, .bool b, .ints z] then (c ++ S [32]) ++ decT [.bool b, .ints z, .int (curPlaces c)] else S []
  | _ => S []
theorem known_size {c : ByteArray} (h : curKnown c = true) : c.size ≤ 50 := by
  have h1 : (implTab.all fun r => decide (r.1.size ≤ 50)) = true := by decide +kernel
  unfold curKnown curIn at h
  rw [List.any_eq_true] at h
  obtain ⟨r, hr, he⟩ := h
  rw [List.all_eq_true] at h1
  have := of_decide_eq_true (h1 r hr)
  rwa [of_decide_eq_true he] at this
theorem moneyT_size (c : ByteArray) (b : Bool) (z : List Int) : (moneyT [.str c, .bool b, .ints z]).size ≤ 200 := by
  simp only [moneyT]
  split
  · rename_i h
    have := decT_size [.bool b, .ints z, .int (curPlaces c)]
    have hk : curKnown c = true := by
      simp only [moneyOk, Bool.and_eq_true] at h
      exact h.1.1
    have := known_size hk
    rw [ByteArray.size_append, ByteArray.size_append]
    show c.size + 1 + _ ≤ _
    omega
  · show 0 ≤ _; omega
theorem impl_CurPlaces_c {w : World} (c : ByteArray) (ht : Tab w) : Ret P n_impl_CurPlaces [.string c] w fun v w' => v = .int .i64 (curPlaces c) ∧ Ext w w' := by
  refine impl_CurPlaces_ret ?_
  unfold impl_CurPlaces
  refine Ret.at (impl_currencyOf_c ht c) ?_
  rintro v w1 ⟨hv, y1⟩
  subst hv
  refine ⟨_, _, _, _, _, rfl, ?_⟩
  intro r w2 hn
  obtain ⟨w3, st, hb3, y3⟩ := hn.fill (P := P) (t := T_impl_currency) (xs := curCells (curFind implTab c)) (by simp [curCells, Value.oneCell']) (by kernel_rfl) rfl
  exact ⟨w3, st, _, hb3.loadAt 2 rfl (by kernel_rfl) rfl, rfl, y1.trans y3⟩
theorem spec_CurPlaces_c {w : World} (c : ByteArray) : Ret P n_spec_CurPlaces [.string c] w fun v w' => v = .int .i64 (curPlaces c) ∧ Ext w w' := by
  refine spec_CurPlaces_ret ?_
  unfold spec_CurPlaces
  refine Ret.at (spec_l08Find_c c) ?_
  rintro v w1 ⟨hv, y1⟩
  subst hv
  refine ⟨_, _, _, _, rfl, ?_, y1⟩
  rw [find_same]; rfl
theorem impl_MoneyText_c {w : World} {xs : List Value} {c : ByteArray} {b : Bool} {z : List Int} (h : Reps w xs [.str c, .bool b, .ints z]) (ht : Tab w) (hp : TabP w) :
    Ret P n_impl_MoneyText [.agg ⟨xs⟩] w fun v w' => v = .string (moneyT [.str c, .bool b, .ints z]) ∧ Ext w w' := by
  have hr := h
  obtain ⟨t0, a0, a1p, a1n, a1c, a1z, rfl, hd, ha⟩ := open_Money h rfl
  simp only [List.cons.injEq, D0.str.injEq, D0.bool.injEq, D0.ints.injEq, and_true] at hd
  obtain ⟨rfl, rfl, rfl⟩ := hd
  refine impl_MoneyText_ret ?_
  unfold impl_MoneyText
  intro r w1 hn1
  refine ⟨_, _, _, _, _, hn1.blk.loadA0 (by kernel_rfl), ?_⟩
  refine Ret.at (impl_MoneyOk_c (ht.ext hn1.ext) (hr.ext hn1.ext) rfl) ?_
  rintro v w2 ⟨hv, y2⟩
  subst hv
  have X2 := hn1.ext.trans y2
  refine ⟨_, rfl, ifN (fun e => ⟨by simp only [moneyT, e, Bool.false_eq_true, if_false], X2⟩) (fun e => ?_)⟩
  have hcs : c.size ≤ 50 := known_size (by simp only [moneyOk, Bool.and_eq_true] at e; exact e.1.1)
  have D := Ext.drew w2
  have X3 := X2.trans D
  have bk := hn1.blk.ext (y2.trans D)
  refine ⟨_, fun W hW => (bk.ext hW).loadAt 0 rfl (by kernel_rfl) rfl, ?_, _, rfl, _, _, _, _, fun W hW => (bk.ext hW).loadAAt 1 [.bool b, .slice a1p a1n a1c] rfl (by kernel_rfl) rfl, _, fun W hW => (bk.ext hW).loadAt 0 rfl (by kernel_rfl) rfl, ?_⟩
  · show c.size + 1 ≤ _
    omega
  refine Ret.at (impl_CurPlaces_c c (ht.ext X3)) ?_
  rintro v w4 ⟨hv, y4⟩
  subst hv
  refine ⟨_, rfl, y4, ?_⟩
  have X4 := X3.trans y4
  have hs : Reps w4 [.bool b, .slice a1p a1n a1c, .int .i64 (curPlaces c)] [.bool b, .ints z, .int (curPlaces c)] := ⟨rfl, ⟨_, _, _, rfl, ha.ext X4⟩, rfl, trivial⟩
  refine Ret.at (impl_DecText_c hs rfl (hp.ext X4)) ?_
  rintro v w5 ⟨hv, y5⟩
  subst hv
  have N := decT_size [.bool b, .ints z, .int (curPlaces c)]
  refine ⟨_, rfl, y5, ?_, _, rfl, ?_, X4.trans y5⟩
  · rw [ByteArray.size_append]
    show c.size + 1 + _ ≤ _
    omega
  · simp only [moneyT, e, if_true]
theorem spec_MoneyText_c {w : World} {xs : List Value} {c : ByteArray} {b : Bool} {z : List Int} (h : Reps w xs [.str c, .bool b, .ints z]) :
    Ret P n_spec_MoneyText [.agg ⟨xs⟩] w fun v w' => v = .string (moneyT [.str c, .bool b, .ints z]) ∧ Ext w w' := by
  have hr := h
  obtain ⟨t0, a0, a1p, a1n, a1c, a1z, rfl, hd, ha⟩ := open_Money h rfl
  simp only [List.cons.injEq, D0.str.injEq, D0.bool.injEq, D0.ints.injEq, and_true] at hd
  obtain ⟨rfl, rfl, rfl⟩ := hd
  refine spec_MoneyText_ret ?_
  unfold spec_MoneyText
  intro r w1 hn1
  refine ⟨_, _, _, _, _, hn1.blk.loadA0 (by kernel_rfl), ?_⟩
  refine Ret.at (spec_MoneyOk_c (hr.ext hn1.ext) rfl) ?_
  rintro v w2 ⟨hv, y2⟩
  subst hv
  have X2 := hn1.ext.trans y2
  refine ⟨_, rfl, ifN (fun e => ⟨by simp only [moneyT, e, Bool.false_eq_true, if_false], X2⟩) (fun e => ?_)⟩
  have hcs : c.size ≤ 50 := known_size (by simp only [moneyOk, Bool.and_eq_true] at e; exact e.1.1)
  have D := Ext.drew w2
  have X3 := X2.trans D
  have bk := hn1.blk.ext (y2.trans D)
  refine ⟨_, fun W hW => (bk.ext hW).loadAt 0 rfl (by kernel_rfl) rfl, ?_, _, rfl, _, _, _, _, fun W hW => (bk.ext hW).loadAAt 1 [.bool b, .slice a1p a1n a1c] rfl (by kernel_rfl) rfl, _, fun W hW => (bk.ext hW).loadAt 0 rfl (by kernel_rfl) rfl, ?_⟩
  · show c.size + 1 ≤ _
    omega
  refine Ret.at (spec_CurPlaces_c c) ?_
  rintro v w4 ⟨hv, y4⟩
  subst hv
  refine ⟨_, rfl, y4, ?_⟩
  have X4 := X3.trans y4
  have hs : Reps w4 [.bool b, .slice a1p a1n a1c, .int .i64 (curPlaces c)] [.bool b, .ints z, .int (curPlaces c)] := ⟨rfl, ⟨_, _, _, rfl, ha.ext X4⟩, rfl, trivial⟩
  refine Ret.at (spec_DecText_c hs rfl) ?_
  rintro v w5 ⟨hv, y5⟩
  subst hv
  have N := decT_size [.bool b, .ints z, .int (curPlaces c)]
  refine ⟨_, rfl, y5, ?_, _, rfl, ?_, X4.trans y5⟩
  · rw [ByteArray.size_append]
    show c.size + 1 + _ ≤ _
    omega
  · simp only [moneyT, e, if_true]
end Go.Proofs.YtpaekkcgphljoaaDoor

namespace Go.Proofs.YtpaekkcgphljoaaDoor.Sx
open Go Go.RowKit
set_option linter.unusedVariables false
set_option linter.unusedSimpArgs false
theorem OwnRows.fresh {w w' : World} {B : Nat} {e : TypeId} {k r : Nat} (hn : New w (.cells ⟨[]⟩ e (0, 0)) r w') (hb : B ≤ w.heap.size) : OwnRows w' B e k (some ⟨r, 0, none⟩) 0 0 [] [r] :=
  ⟨rfl, [], [], trivial, Own.of_blk0 hn.blk (by have := hn.r_eq; omega) (by simp) (by decide), by simp, by simp⟩
end Go.Proofs.YtpaekkcgphljoaaDoor.Sx

namespace Go.Proofs.YtpaekkcgphljoaaDoor
open Go Go.Proofs.YtpaekkcgphljoaaDoor.Sx
set_option linter.unusedVariables false
set_option linter.unusedSimpArgs false
/-- a slice of texts -/
def StrsR (w : World) (p : Option Addr) (n c : Nat) (l : List ByteArray) : Prop :=
  l.length = n ∧ n ≤ c ∧ c ≤ 9223372036854775807 ∧ (0 < n → ∃ b off, p = some ⟨b, off, none⟩ ∧ Seg w b off (l.map Value.string))
theorem StrsR.ext {w w' : World} {p : Option Addr} {n c : Nat} {l : List ByteArray} (h : StrsR w p n c l) (he : Ext w w') : StrsR w' p n c l :=
  ⟨h.1, h.2.1, h.2.2.1, fun hn => let ⟨b, off, hp, hs⟩ := h.2.2.2 hn; ⟨b, off, hp, hs.ext he⟩⟩
theorem StrsR.at {P : Program} {w : World} {p : Option Addr} {n c k : Nat} {l : List ByteArray} (h : StrsR w p n c l) {t : TypeId} (ht : cellT P t = true) (hk : k < n) :
    ∃ a, p = some a ∧ Loads P t (a.add (k * 1)) (.string (l[k]'(by rw [h.1]; exact hk))) w := by
  obtain ⟨b, off, hp, hs⟩ := h.2.2.2 (by omega)
  refine ⟨_, hp, ?_⟩
  rw [Nat.mul_one]
  exact hs.load ht (by simp [List.getElem?_eq_getElem (by rw [h.1]; exact hk : k < l.length)])
theorem blk_strs {w : World} {r : Nat} {l : List ByteArray} (h : Blk w r T_string (l.map Value.string)) (hn : l.length ≤ 9223372036854775807) : StrsR w (some ⟨r, 0, none⟩) l.length l.length l :=
  ⟨rfl, Nat.le_refl _, hn, fun _ => ⟨r, 0, rfl, h.seg⟩⟩
/-- texts with another between them -/
def joinT (by' : ByteArray) (l : List ByteArray) : ByteArray := ⟨(Lib.join (l.map (·.data.toList)) by'.data.toList).toArray⟩
theorem joinT_nil (b : ByteArray) : joinT b [] = ByteArray.empty := rfl
theorem joinT_one (b x : ByteArray) : joinT b [x] = x := ba_ext (by simp [joinT, Lib.join_one])
theorem joinT_snoc {b x : ByteArray} : ∀ {l : List ByteArray}, l ≠ [] → joinT b (l ++ [x]) = (joinT b l ++ b) ++ x
  | [], h => absurd rfl h
  | y :: r, _ => ba_ext (by simp [joinT, Lib.join_cons, Lib.joinTail])
theorem joinT_three (b x y z : ByteArray) : joinT b [x, y, z] = (((x ++ b) ++ y) ++ b) ++ z := by
  rw [show [x, y, z] = ([x] ++ [y]) ++ [z] from rfl, joinT_snoc (by simp), joinT_snoc (by simp), joinT_one]
theorem joinT_size {b : ByteArray} {k : Nat} : ∀ {l : List ByteArray}, (∀ x ∈ l, x.size ≤ k) → (joinT b l).size ≤ l.length * (k + b.size) := by
  intro l
  have key : ∀ (n : Nat) (l : List ByteArray), l.length = n → (∀ x ∈ l, x.size ≤ k) → (joinT b l).size ≤ l.length * (k + b.size) := by
    intro n
    induction n with
    | zero =>
      intro l hl _
      rw [List.eq_nil_of_length_eq_zero hl, joinT_nil]
      show 0 ≤ _
      omega
    | succ n ih =>
      intro l hl hx
      have hne : l ≠ [] := by intro e; rw [e] at hl; simp at hl
      have hl2 := List.dropLast_concat_getLast hne
      have hd : l.dropLast.length = n := by simp [hl]
      have h1 := ih l.dropLast hd fun x hx' => hx x ((List.dropLast_sublist l).subset hx')
      have h2 := hx _ (List.getLast_mem hne)
      by_cases h0 : l.dropLast = []
      · rw [h0, List.nil_append] at hl2
        rw [← hl2, joinT_one]
        simp only [List.length_cons, List.length_nil]
        omega
      · rw [← hl2, joinT_snoc h0, ByteArray.size_append, ByteArray.size_append, List.length_append, List.length_singleton, hd]
        rw [hd] at h1
        rw [Nat.succ_mul]
        omega
  exact key _ l rfl
theorem X156 : Go.Proofs.Builder.Extra P ren156 where
  sizeBuilder := by kernel_rfl
  liesBuilder := by kernel_rfl
  t5 := lays105.t5
  a5 := lays105.a5
  z5 := lays105.z5
  v5 := lays105.v5
  infoByte := by kernel_rfl
  cellsByte := by kernel_rfl
  sizeByte := by kernel_rfl
  neB5 := by decide
theorem impl_Join_c {w : World} {p : Option Addr} {n c : Nat} {l : List ByteArray} (h : StrsR w p n c l) (b : ByteArray) {k : Nat} (hk : ∀ x ∈ l, x.size ≤ k) (hb : n * (k + b.size) ≤ 140737488355328) (hn : n ≤ 140737488355328) :
    Ret P n_impl_Join [.slice p n c, .string b] w fun v w' => v = .string (joinT b l) ∧ Ext w w' := by
  refine impl_Join_ret ?_
  unfold impl_Join
  have hz := h.1; have hcap := h.2.1
  have hsz := joinT_size (b := b) hk
  rw [hz] at hsz
  have hlen : (Lib.join (l.map (·.data.toList)) b.data.toList).length ≤ 140737488355328 := by
    have : (joinT b l).size = (Lib.join (l.map (·.data.toList)) b.data.toList).length := by simp [joinT, ByteArray.size]
    omega
  rcases Nat.eq_zero_or_pos n with h0 | h0
  · subst h0
    have : l = [] := List.eq_nil_of_length_eq_zero hz
    subst this
    refine (Any.strings_Join_none lays156 X156 p c b w).mono ?_
    rintro e w' ⟨rfl, rfl⟩
    exact ⟨_, rfl, rfl, Ext.refl _⟩
  · obtain ⟨r, o, rfl, hs⟩ := h.2.2.2 h0
    have hcells : ∀ (j : Nat) x, l[j]? = some x → w.cell? ⟨r, o + j, none⟩ = some (.string x) := fun j x hx => hs j _ (by simp [hx])
    have hbk : r < w.heap.size := World.block_lt_of_cell? w _ (hcells 0 _ (List.getElem?_eq_getElem (by omega)))
    have := Any.strings_Join lays156 X156 r o c l b w hcells hbk (by omega) (by omega) hlen
    rw [hz] at this
    refine this.mono ?_
    rintro e w' ⟨rfl, hx⟩
    exact ⟨_, rfl, rfl, hx⟩
end Go.Proofs.YtpaekkcgphljoaaDoor
