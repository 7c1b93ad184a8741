/-
  The frame-free forms of some Go functions, printed by a program of mine; each with the theorem that it is sound.
-/
import Derived.Test.YtjbbelfocdbeeaaP
namespace Go.Proofs.Ytjbbelfocdbeeaa
open Go Go.Proofs.Ytjbbelfocdbeeaa.Sx
set_option linter.unusedVariables false
set_option maxRecDepth 100000

def laws_FnExactEnName (aCode : Int) (w : World) (R : Value → World → Prop) : Prop :=
  Calls P 5 ⟨[(.int .i64 aCode)]⟩ w fun e wv =>
  ∃ (t6 : ByteArray), e = .returned (.string t6) ∧
  Calls P 6 ⟨[(.int .i64 aCode)]⟩ wv fun e_1 wv_1 =>
  ∃ (t8 : ByteArray), e_1 = .returned (.string t8) ∧
  ((decide (t8 ≠ t6)) = true →
    R (.bool false) wv_1) ∧
  ((decide (t8 ≠ t6)) = false →
    R (.bool true) wv_1)
theorem laws_FnExactEnName_eq (aCode : Int) (w : World) (R : Value → World → Prop) : laws_FnExactEnName aCode w R = fsem P Try.f3 (fun k => []) [(.int .i64 aCode)] R w := by kernel_rfl
theorem laws_FnExactEnName_ret {aCode : Int} {w : World} {R : Value → World → Prop} (h : laws_FnExactEnName aCode w R) : Ret P 3 [(.int .i64 aCode)] w R :=
  Ret.of_fsem Try.func3 rfl (Eq.mp (laws_FnExactEnName_eq aCode w R) h)

def laws_FnExactAcctAt (aB0_p : Option Addr) (aB0_n : Nat) (aB0_c : Nat) (aName : ByteArray) (w : World) (R : Value → World → Prop) : Prop :=
  ∀ (r : Nat) (wv : World), New w (.cells ⟨[(.slice aB0_p aB0_n aB0_c)]⟩ 26 (0, 0)) r wv →
  ((decide ((1048576 : Int) < ((aName.size : Nat) : Int))) = true →
    R (.bool true) wv) ∧
  ((decide ((1048576 : Int) < ((aName.size : Nat) : Int))) = false →
    ∃ (t120_p : Option Addr) (t120_n : Nat) (t120_c : Nat), Loads P 26 ⟨r, 0, none⟩ (.agg #[(.slice t120_p t120_n t120_c)]) wv ∧ Calls P 7 ⟨[(.agg #[(.slice t120_p t120_n t120_c)]), (.int .i64 1048576)]⟩ wv fun e wv_1 =>
    ∃ (t14 : Int), e = .returned (.int .i64 t14) ∧
    ((decide ((t14 : Int) < 0)) = true →
      R (.bool true) wv_1) ∧
    ((decide ((t14 : Int) < 0)) = false →
      ∃ (t170_p : Option Addr) (t170_n : Nat) (t170_c : Nat), Loads P 26 ⟨r, 0, none⟩ (.agg #[(.slice t170_p t170_n t170_c)]) wv_1 ∧ Calls P 9 ⟨[(.agg #[(.slice t170_p t170_n t170_c)])]⟩ wv_1 fun e_1 wv_2 =>
      ∃ (t180_p : Option Addr) (t180_n : Nat) (t180_c : Nat), e_1 = .returned (.agg #[(.slice t180_p t180_n t180_c)]) ∧
      Calls P 8 ⟨[(.agg #[(.slice t180_p t180_n t180_c)]), (.string aName)]⟩ wv_2 fun e_2 wv_3 =>
      ∃ (t20 : Int), e_2 = .returned (.int .i64 t20) ∧
      ∃ (t210_p : Option Addr) (t210_n : Nat) (t210_c : Nat), Loads P 26 ⟨r, 0, none⟩ (.agg #[(.slice t210_p t210_n t210_c)]) wv_3 ∧ Calls P 9 ⟨[(.agg #[(.slice t210_p t210_n t210_c)])]⟩ wv_3 fun e_3 wv_4 =>
      ∃ (t220_p : Option Addr) (t220_n : Nat) (t220_c : Nat), e_3 = .returned (.agg #[(.slice t220_p t220_n t220_c)]) ∧
      ∀ (r_1 : Nat) (wv_5 : World), New wv_4 (.cells ⟨[(.slice none 0 0)]⟩ 31 (0, 0)) r_1 wv_5 →
      ∃ wv_6, Stores P 31 ⟨r_1, 0, none⟩ (.agg #[(.slice t220_p t220_n t220_c)]) wv_5 wv_6 ∧
      ∃ (t230_p : Option Addr) (t230_n : Nat) (t230_c : Nat), Loads P 31 ⟨r_1, 0, none⟩ (.agg #[(.slice t230_p t230_n t230_c)]) wv_6 ∧ Calls P 10 ⟨[(.agg #[(.slice t230_p t230_n t230_c)]), (.string aName)]⟩ wv_6 fun e_4 wv_7 =>
      ∃ (t25 : Int), e_4 = .returned (.int .i64 t25) ∧
      ((decide ((t25 : Int) ≠ t20)) = true →
        R (.bool false) wv_7) ∧
      ((decide ((t25 : Int) ≠ t20)) = false →
        ∃ (t290_p : Option Addr) (t290_n : Nat) (t290_c : Nat), (∀ wv_8, Ext wv_7.drew wv_8 → Loads P 31 ⟨r_1, 0, none⟩ (.agg #[(.slice t290_p t290_n t290_c)]) wv_8) ∧ ∃ (t300_p : Option Addr) (t300_n : Nat) (t300_c : Nat), (∀ wv_9, Ext wv_7.drew wv_9 → Loads P 26 ⟨r, 0, none⟩ (.agg #[(.slice t300_p t300_n t300_c)]) wv_9) ∧ Calls P 9 ⟨[(.agg #[(.slice t300_p t300_n t300_c)])]⟩ wv_7.drew fun e_5 wv_10 =>
        ∃ (t310_p : Option Addr) (t310_n : Nat) (t310_c : Nat), e_5 = .returned (.agg #[(.slice t310_p t310_n t310_c)]) ∧
        Ext wv_7.drew wv_10 ∧ Calls P 11 ⟨[(.agg #[(.slice t290_p t290_n t290_c)]), (.agg #[(.slice t310_p t310_n t310_c)])]⟩ wv_10 fun e_6 wv_11 =>
        ∃ (t32 : Bool), e_6 = .returned (.bool t32) ∧
        ((!t32) = true →
          R (.bool false) wv_11) ∧
        ((!t32) = false →
          R (.bool true) wv_11))))
theorem laws_FnExactAcctAt_eq (aB0_p : Option Addr) (aB0_n : Nat) (aB0_c : Nat) (aName : ByteArray) (w : World) (R : Value → World → Prop) : laws_FnExactAcctAt aB0_p aB0_n aB0_c aName w R = fsem P Try.f4 (fun k => []) [(.agg #[(.slice aB0_p aB0_n aB0_c)]), (.string aName)] R w := by kernel_rfl
theorem laws_FnExactAcctAt_ret {aB0_p : Option Addr} {aB0_n : Nat} {aB0_c : Nat} {aName : ByteArray} {w : World} {R : Value → World → Prop} (h : laws_FnExactAcctAt aB0_p aB0_n aB0_c aName w R) : Ret P 4 [(.agg #[(.slice aB0_p aB0_n aB0_c)]), (.string aName)] w R :=
  Ret.of_fsem Try.func4 rfl (Eq.mp (laws_FnExactAcctAt_eq aB0_p aB0_n aB0_c aName w R) h)

def spec_EnName (code : Int) (w : World) (R : Value → World → Prop) : Prop :=
  Calls P 12 ⟨[(.int .i64 code), (.int .i64 0), (.int .i64 5)]⟩ w fun e wv =>
  ∃ (t4 : Bool), e = .returned (.bool t4) ∧
  ((!t4) = true →
    R (.string (S [])) wv) ∧
  ((!t4) = false →
    ∀ (r : Nat) (wv_1 : World), New wv (.cells ⟨[(.string (S [111, 107])), (.string (S [102, 111, 114, 109])), (.string (S [97, 99, 99, 116])), (.string (S [99, 117, 114])), (.string (S [115, 117, 109])), (.string (S [108, 97, 114, 103, 101]))]⟩ 9 (0, 0)) r wv_1 →
    (0 ≤ (code : Int) ∧ (code : Int) < (6 : Nat)) ∧ ∃ (t9 : ByteArray), Loads P 9 ((⟨r, 0, none⟩ : Addr).add (code.toNat * 1)) (.string t9) wv_1 ∧ R (.string t9) wv_1)
theorem spec_EnName_eq (code : Int) (w : World) (R : Value → World → Prop) : spec_EnName code w R = fsem P Try.f5 (fun k => []) [(.int .i64 code)] R w := by kernel_rfl
theorem spec_EnName_ret {code : Int} {w : World} {R : Value → World → Prop} (h : spec_EnName code w R) : Ret P 5 [(.int .i64 code)] w R :=
  Ret.of_fsem Try.func5 rfl (Eq.mp (spec_EnName_eq code w R) h)

def impl_EnName (code : Int) (w : World) (R : Value → World → Prop) : Prop :=
  ∀ (r : Nat) (wv : World), New w (.cells ⟨[(.string (S [111, 107])), (.string (S [102, 111, 114, 109])), (.string (S [97, 99, 99, 116])), (.string (S [99, 117, 114])), (.string (S [115, 117, 109])), (.string (S [108, 97, 114, 103, 101]))]⟩ 9 (0, 0)) r wv →
  Calls P 13 ⟨[(.int .i64 code), (.slice (some ⟨r, 0, none⟩) 6 6)]⟩ wv fun e wv_1 =>
  ∃ (t5 : ByteArray), e = .returned (.string t5) ∧
  R (.string t5) wv_1
theorem impl_EnName_eq (code : Int) (w : World) (R : Value → World → Prop) : impl_EnName code w R = fsem P Try.f6 (fun k => []) [(.int .i64 code)] R w := by kernel_rfl
theorem impl_EnName_ret {code : Int} {w : World} {R : Value → World → Prop} (h : impl_EnName code w R) : Ret P 6 [(.int .i64 code)] w R :=
  Ret.of_fsem Try.func6 rfl (Eq.mp (impl_EnName_eq code w R) h)

def spec_AcctAt (b0_p : Option Addr) (b0_n : Nat) (b0_c : Nat) (name : ByteArray) (w : World) (R : Value → World → Prop) : Prop :=
  ∀ (r : Nat) (wv : World), New w (.cells ⟨[(.slice b0_p b0_n b0_c)]⟩ 31 (0, 0)) r wv →
  ∃ (t8_p : Option Addr) (t8_n : Nat) (t8_c : Nat), Loads P 29 ((⟨r, 0, none⟩ : Addr).add 0) (.slice t8_p t8_n t8_c) wv ∧ ∃ (Inv : Int → World → Prop) (mu : Int → World → Nat), Inv 0 wv ∧
  ∀ (junk : Fr) (wv_1 : World) (t10 : Int), Inv t10 wv_1 →
    ((decide ((t10 : Int) < ((t8_n : Nat) : Int))) = true →
      (0 ≤ (t10 : Int) ∧ (t10 : Int) < (t8_n : Nat)) ∧ ptrS t8_p fun ad => ∃ (t140 : ByteArray) (t141 : ByteArray) (t142 : Bool) (t143_p : Option Addr) (t143_n : Nat) (t143_c : Nat), Loads P 45 (ad.add (t10.toNat * 4)) (.agg #[(.string t140), (.string t141), (.bool t142), (.slice t143_p t143_n t143_c)]) wv_1 ∧ ∀ (r_1 : Nat) (wv_2 : World), New wv_1 (.cells ⟨[(.string ByteArray.empty), (.string ByteArray.empty), (.bool false), (.slice none 0 0)]⟩ 45 (0, 0)) r_1 wv_2 →
      ∃ wv_3, Stores P 45 ⟨r_1, 0, none⟩ (.agg #[(.string t140), (.string t141), (.bool t142), (.slice t143_p t143_n t143_c)]) wv_2 wv_3 ∧
      ∃ (t16 : ByteArray), Loads P 9 ((⟨r_1, 0, none⟩ : Addr).add 0) (.string t16) wv_3 ∧ ((decide (t16 = name)) = true →
        R (.int .i64 t10) wv_3) ∧
      ((decide (t16 = name)) = false →
        ∃ t20 : Int, t20 = IntKind.wrap .i64 (t10 + 1) ∧ Inv t20 wv_3 ∧ mu t20 wv_3 < mu t10 wv_1)) ∧
    ((decide ((t10 : Int) < ((t8_n : Nat) : Int))) = false →
      R (.int .i64 (-1)) wv_1)
theorem spec_AcctAt_eq (b0_p : Option Addr) (b0_n : Nat) (b0_c : Nat) (name : ByteArray) (w : World) (R : Value → World → Prop) : spec_AcctAt b0_p b0_n b0_c name w R = fsem P Try.f8 (fun k => cond (Nat.beq k 3) [(10, .one (.int .i64))] ([])) [(.agg #[(.slice b0_p b0_n b0_c)]), (.string name)] R w := by kernel_rfl
theorem spec_AcctAt_ret {b0_p : Option Addr} {b0_n : Nat} {b0_c : Nat} {name : ByteArray} {w : World} {R : Value → World → Prop} (h : spec_AcctAt b0_p b0_n b0_c name w R) : Ret P 8 [(.agg #[(.slice b0_p b0_n b0_c)]), (.string name)] w R :=
  Ret.of_fsem Try.func8 rfl (Eq.mp (spec_AcctAt_eq b0_p b0_n b0_c name w R) h)

def impl_AcctAt (b0_p : Option Addr) (b0_n : Nat) (b0_c : Nat) (name : ByteArray) (w : World) (R : Value → World → Prop) : Prop :=
  ∀ (r : Nat) (wv : World), New w (.cells ⟨[(.slice b0_p b0_n b0_c)]⟩ 31 (0, 0)) r wv →
  ∀ (r_1 : Nat) (wv_1 : World), New wv (.cells ⟨[(.string name)]⟩ 9 (0, 0)) r_1 wv_1 →
  ∃ (t6_p : Option Addr) (t6_n : Nat) (t6_c : Nat), Loads P 29 ((⟨r, 0, none⟩ : Addr).add 0) (.slice t6_p t6_n t6_c) wv_1 ∧ Calls P 16 ⟨[(.slice t6_p t6_n t6_c), (.func (.func 17) #[] #[(.pointer (some ⟨r_1, 0, none⟩))])]⟩ wv_1 fun e wv_2 =>
  ∃ (t8 : Int), e = .returned (.int .i64 t8) ∧
  R (.int .i64 t8) wv_2
theorem impl_AcctAt_eq (b0_p : Option Addr) (b0_n : Nat) (b0_c : Nat) (name : ByteArray) (w : World) (R : Value → World → Prop) : impl_AcctAt b0_p b0_n b0_c name w R = fsem P Try.f10 (fun k => []) [(.agg #[(.slice b0_p b0_n b0_c)]), (.string name)] R w := by kernel_rfl
theorem impl_AcctAt_ret {b0_p : Option Addr} {b0_n : Nat} {b0_c : Nat} {name : ByteArray} {w : World} {R : Value → World → Prop} (h : impl_AcctAt b0_p b0_n b0_c name w R) : Ret P 10 [(.agg #[(.slice b0_p b0_n b0_c)]), (.string name)] w R :=
  Ret.of_fsem Try.func10 rfl (Eq.mp (impl_AcctAt_eq b0_p b0_n b0_c name w R) h)

def spec_l01In (n : Int) (lo : Int) (hi : Int) (w : World) (R : Value → World → Prop) : Prop :=
  ((decide ((lo : Int) ≤ n)) = true →
    R (.bool (decide ((n : Int) ≤ hi))) w) ∧
  ((decide ((lo : Int) ≤ n)) = false →
    R (.bool false) w)
theorem spec_l01In_eq (n : Int) (lo : Int) (hi : Int) (w : World) (R : Value → World → Prop) : spec_l01In n lo hi w R = fsem P Try.f12 (fun k => []) [(.int .i64 n), (.int .i64 lo), (.int .i64 hi)] R w := by kernel_rfl
theorem spec_l01In_ret {n : Int} {lo : Int} {hi : Int} {w : World} {R : Value → World → Prop} (h : spec_l01In n lo hi w R) : Ret P 12 [(.int .i64 n), (.int .i64 lo), (.int .i64 hi)] w R :=
  Ret.of_fsem Try.func12 rfl (Eq.mp (spec_l01In_eq n lo hi w R) h)

def impl_nameAt (i : Int) (names_p : Option Addr) (names_n : Nat) (names_c : Nat) (w : World) (R : Value → World → Prop) : Prop :=
  ((decide ((i : Int) < 0)) = true →
    (true = true →
      R (.string (S [])) w) ∧
    (true = false →
      (0 ≤ (i : Int) ∧ (i : Int) < (names_n : Nat)) ∧ ptrS names_p fun ad => ∃ (t16 : ByteArray), Loads P 9 (ad.add (i.toNat * 1)) (.string t16) w ∧ R (.string t16) w)) ∧
  ((decide ((i : Int) < 0)) = false →
    ((decide ((((names_n : Nat) : Int) : Int) ≤ i)) = true →
      R (.string (S [])) w) ∧
    ((decide ((((names_n : Nat) : Int) : Int) ≤ i)) = false →
      (0 ≤ (i : Int) ∧ (i : Int) < (names_n : Nat)) ∧ ptrS names_p fun ad_1 => ∃ (t16_1 : ByteArray), Loads P 9 (ad_1.add (i.toNat * 1)) (.string t16_1) w ∧ R (.string t16_1) w))
theorem impl_nameAt_eq (i : Int) (names_p : Option Addr) (names_n : Nat) (names_c : Nat) (w : World) (R : Value → World → Prop) : impl_nameAt i names_p names_n names_c w R = fsem P Try.f13 (fun k => []) [(.int .i64 i), (.slice names_p names_n names_c)] R w := by kernel_rfl
theorem impl_nameAt_ret {i : Int} {names_p : Option Addr} {names_n : Nat} {names_c : Nat} {w : World} {R : Value → World → Prop} (h : impl_nameAt i names_p names_n names_c w R) : Ret P 13 [(.int .i64 i), (.slice names_p names_n names_c)] w R :=
  Ret.of_fsem Try.func13 rfl (Eq.mp (impl_nameAt_eq i names_p names_n names_c w R) h)

def slices_IndexFunc_impl_Acct_impl_Acct (s_p : Option Addr) (s_n : Nat) (s_c : Nat) (f : Value) (w : World) (R : Value → World → Prop) : Prop :=
  ∃ (Inv : Int → World → Prop) (mu : Int → World → Nat), Inv 0 w ∧
  ∀ (junk : Fr) (wv : World) (t8 : Int), Inv t8 wv →
    ((decide ((t8 : Int) < ((s_n : Nat) : Int))) = true →
      (0 ≤ (t8 : Int) ∧ (t8 : Int) < (s_n : Nat)) ∧ ptrS s_p fun ad => ∃ (t150 : ByteArray) (t151 : ByteArray) (t152 : Bool) (t153_p : Option Addr) (t153_n : Nat) (t153_c : Nat), Loads P 45 (ad.add (t8.toNat * 4)) (.agg #[(.string t150), (.string t151), (.bool t152), (.slice t153_p t153_n t153_c)]) wv ∧ CallW P f [(.agg #[(.string t150), (.string t151), (.bool t152), (.slice t153_p t153_n t153_c)])] wv fun e wv_1 =>
      ∃ (t16 : Bool), e = .returned (.bool t16) ∧
      (t16 = true →
        R (.int .i64 t8) wv_1) ∧
      (t16 = false →
        ∃ t18 : Int, t18 = IntKind.wrap .i64 (t8 + 1) ∧ Inv t18 wv_1 ∧ mu t18 wv_1 < mu t8 wv)) ∧
    ((decide ((t8 : Int) < ((s_n : Nat) : Int))) = false →
      R (.int .i64 (-1)) wv)
theorem slices_IndexFunc_impl_Acct_impl_Acct_eq (s_p : Option Addr) (s_n : Nat) (s_c : Nat) (f : Value) (w : World) (R : Value → World → Prop) : slices_IndexFunc_impl_Acct_impl_Acct s_p s_n s_c f w R = fsem P Try.f16 (fun k => cond (Nat.beq k 3) [(8, .one (.int .i64))] ([])) [(.slice s_p s_n s_c), f] R w := by kernel_rfl
theorem slices_IndexFunc_impl_Acct_impl_Acct_ret {s_p : Option Addr} {s_n : Nat} {s_c : Nat} {f : Value} {w : World} {R : Value → World → Prop} (h : slices_IndexFunc_impl_Acct_impl_Acct s_p s_n s_c f w R) : Ret P 16 [(.slice s_p s_n s_c), f] w R :=
  Ret.of_fsem Try.func16 rfl (Eq.mp (slices_IndexFunc_impl_Acct_impl_Acct_eq s_p s_n s_c f w R) h)

def impl_AcctAt_1 (a0 : ByteArray) (a1 : ByteArray) (a2 : Bool) (a3_p : Option Addr) (a3_n : Nat) (a3_c : Nat) (cap0 : Option Addr) (w : World) (R : Value → World → Prop) : Prop :=
  ∀ (r : Nat) (wv : World), New w (.cells ⟨[(.string a0), (.string a1), (.bool a2), (.slice a3_p a3_n a3_c)]⟩ 45 (0, 0)) r wv →
  ∃ (t5 : ByteArray), Loads P 9 ((⟨r, 0, none⟩ : Addr).add 0) (.string t5) wv ∧ ptrS cap0 fun ad => ∃ (t6 : ByteArray), Loads P 9 ad (.string t6) wv ∧ R (.bool (decide (t5 = t6))) wv
theorem impl_AcctAt_1_eq (a0 : ByteArray) (a1 : ByteArray) (a2 : Bool) (a3_p : Option Addr) (a3_n : Nat) (a3_c : Nat) (cap0 : Option Addr) (w : World) (R : Value → World → Prop) : impl_AcctAt_1 a0 a1 a2 a3_p a3_n a3_c cap0 w R = fsem P Try.f17 (fun k => []) [(.agg #[(.string a0), (.string a1), (.bool a2), (.slice a3_p a3_n a3_c)]), (.pointer cap0)] R w := by kernel_rfl
theorem impl_AcctAt_1_ret {a0 : ByteArray} {a1 : ByteArray} {a2 : Bool} {a3_p : Option Addr} {a3_n : Nat} {a3_c : Nat} {cap0 : Option Addr} {w : World} {R : Value → World → Prop} (h : impl_AcctAt_1 a0 a1 a2 a3_p a3_n a3_c cap0 w R) : Ret P 17 [(.agg #[(.string a0), (.string a1), (.bool a2), (.slice a3_p a3_n a3_c)]), (.pointer cap0)] w R :=
  Ret.of_fsem Try.func17 rfl (Eq.mp (impl_AcctAt_1_eq a0 a1 a2 a3_p a3_n a3_c cap0 w R) h)

end Go.Proofs.Ytjbbelfocdbeeaa
