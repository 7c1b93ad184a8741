/-
  Parts of the proof of bookOpen_holds: G1, G2, GData, SxMem, SxData, SxOwn, DInts, DS.
  Conditions: none.
-/
import Derived.Laws.AppendOwn
import Derived.Laws.CopyRow
import Derived.Test.YteakifedfnnmeaaDoorBo1

namespace Go.Proofs.YteakifedfnnmeaaDoor
open Go Go.Proofs.YteakifedfnnmeaaDoor.Sx
set_option linter.unusedVariables false
set_option maxRecDepth 100000
def laws_FnExactBookOpen_j2 (r_3 : Nat) (t78 : Int) (W_2 : World) (R : Value → World → Prop) : Prop :=
  ∃ (t1040_p : Option Addr) (t1040_n : Nat) (t1040_c : Nat), Loads P 28 ⟨r_3, 0, none⟩ (.agg #[(.slice t1040_p t1040_n t1040_c)]) W_2 ∧ Calls P 11 ⟨[(.agg #[(.slice t1040_p t1040_n t1040_c)]), (.int .i64 1)]⟩ W_2 fun e_14 wv_25 =>
  ∃ (t106 : Int), e_14 = .returned (.int .i64 t106) ∧
  ((decide ((t106 : Int) < 0)) = true →
    R (.bool false) wv_25) ∧
  ((decide ((t106 : Int) < 0)) = false →
    ((decide ((t106 : Int) ≠ t78)) = true →
      R (.bool false) wv_25) ∧
    ((decide ((t106 : Int) ≠ t78)) = false →
      R (.bool true) wv_25))
def laws_FnExactBookOpen_j1 (aName : ByteArray) (aCur : ByteArray) (r : Nat) (t34 : Bool) (r_1 : Nat) (r_3 : Nat) (W_1 : World) (R : Value → World → Prop) : Prop :=
  ∃ (t760_p : Option Addr) (t760_n : Nat) (t760_c : Nat), Loads P 28 ⟨r_3, 0, none⟩ (.agg #[(.slice t760_p t760_n t760_c)]) W_1 ∧ Calls P 10 ⟨[(.agg #[(.slice t760_p t760_n t760_c)]), (.int .i64 1)]⟩ W_1 fun e_9 wv_18 =>
  ∃ (t78 : Int), e_9 = .returned (.int .i64 t78) ∧
  ∃ (t790_p : Option Addr) (t790_n : Nat) (t790_c : Nat), Loads P 28 ⟨r_3, 0, none⟩ (.agg #[(.slice t790_p t790_n t790_c)]) wv_18 ∧ Calls P 11 ⟨[(.agg #[(.slice t790_p t790_n t790_c)]), (.int .i64 1)]⟩ wv_18 fun e_10 wv_19 =>
  ∃ (t81 : Int), e_10 = .returned (.int .i64 t81) ∧
  ((decide ((t81 : Int) < 0)) = true →
    R (.bool false) wv_19) ∧
  ((decide ((t81 : Int) < 0)) = false →
    ((decide ((t81 : Int) ≠ t78)) = true →
      R (.bool false) wv_19) ∧
    ((decide ((t81 : Int) ≠ t78)) = false →
      ∃ (t880_p : Option Addr) (t880_n : Nat) (t880_c : Nat), Loads P 24 ⟨r, 0, none⟩ (.agg #[(.slice t880_p t880_n t880_c)]) wv_19 ∧ Calls P 7 ⟨[(.agg #[(.slice t880_p t880_n t880_c)])]⟩ wv_19 fun e_11 wv_20 =>
      ∃ (t890_p : Option Addr) (t890_n : Nat) (t890_c : Nat), e_11 = .returned (.agg #[(.slice t890_p t890_n t890_c)]) ∧
      Calls P 8 ⟨[(.agg #[(.slice t890_p t890_n t890_c)]), (.string aName), (.string aCur)]⟩ wv_20 fun e_12 wv_21 =>
      ∃ (t920_p : Option Addr) (t920_n : Nat) (t920_c : Nat) (t92 : Bool), e_12 = .returned (.tuple #[(.agg #[(.slice t920_p t920_n t920_c)]), (.bool t92)]) ∧
      ∀ (r_4 : Nat) (wv_22 : World), New wv_21 (.cells ⟨[(.slice none 0 0)]⟩ 28 (0, 0)) r_4 wv_22 →
      ∃ wv_23, Stores P 28 ⟨r_4, 0, none⟩ (.agg #[(.slice t920_p t920_n t920_c)]) wv_22 wv_23 ∧
      ∃ (t950_p : Option Addr) (t950_n : Nat) (t950_c : Nat), Loads P 28 ⟨r_4, 0, none⟩ (.agg #[(.slice t950_p t950_n t950_c)]) wv_23 ∧ ∃ (t960_p : Option Addr) (t960_n : Nat) (t960_c : Nat), Loads P 28 ⟨r_1, 0, none⟩ (.agg #[(.slice t960_p t960_n t960_c)]) wv_23 ∧ Calls P 9 ⟨[(.agg #[(.slice t950_p t950_n t950_c)]), (.agg #[(.slice t960_p t960_n t960_c)])]⟩ wv_23 fun e_13 wv_24 =>
      ∃ (t97 : Bool), e_13 = .returned (.bool t97) ∧
      ((!t97) = true →
        (true = true →
          R (.bool false) wv_24) ∧
        (true = false →
          laws_FnExactBookOpen_j2 r_3 t78 wv_24 R)) ∧
      ((!t97) = false →
        ((!(t92 == t34)) = true →
          R (.bool false) wv_24) ∧
        ((!(t92 == t34)) = false →
          laws_FnExactBookOpen_j2 r_3 t78 wv_24 R))))
def laws_FnExactBookOpen_j0 (aName : ByteArray) (aCur : ByteArray) (r : Nat) (t34 : Bool) (r_1 : Nat) (r_2 : Nat) (t43 : Bool) (r_3 : Nat) (W : World) (R : Value → World → Prop) : Prop :=
  ∃ (t550_p : Option Addr) (t550_n : Nat) (t550_c : Nat), (∀ wv_13, Ext W.drew wv_13 → Loads P 28 ⟨r_2, 0, none⟩ (.agg #[(.slice t550_p t550_n t550_c)]) wv_13) ∧ ∃ (t560_p : Option Addr) (t560_n : Nat) (t560_c : Nat), (∀ wv_14, Ext W.drew wv_14 → Loads P 24 ⟨r, 0, none⟩ (.agg #[(.slice t560_p t560_n t560_c)]) wv_14) ∧ Calls P 7 ⟨[(.agg #[(.slice t560_p t560_n t560_c)])]⟩ W.drew fun e_6 wv_15 =>
  ∃ (t570_p : Option Addr) (t570_n : Nat) (t570_c : Nat), e_6 = .returned (.agg #[(.slice t570_p t570_n t570_c)]) ∧
  Ext W.drew wv_15 ∧ Calls P 9 ⟨[(.agg #[(.slice t550_p t550_n t550_c)]), (.agg #[(.slice t570_p t570_n t570_c)])]⟩ wv_15 fun e_7 wv_16 =>
  ∃ (t58 : Bool), e_7 = .returned (.bool t58) ∧
  ((!t58) = true →
    R (.bool false) wv_16) ∧
  ((!t58) = false →
    ∃ (t600_p : Option Addr) (t600_n : Nat) (t600_c : Nat), Loads P 28 ⟨r_2, 0, none⟩ (.agg #[(.slice t600_p t600_n t600_c)]) wv_16 ∧ Calls P 10 ⟨[(.agg #[(.slice t600_p t600_n t600_c)]), (.int .i64 1)]⟩ wv_16 fun e_8 wv_17 =>
    ∃ (t62 : Int), e_8 = .returned (.int .i64 t62) ∧
    ((decide ((t62 : Int) < 0)) = true →
      (true = true →
        (true = true →
          R (.bool false) wv_17) ∧
        (true = false →
          laws_FnExactBookOpen_j1 aName aCur r t34 r_1 r_3 wv_17 R)) ∧
      (true = false →
        ((!(t43 == t34)) = true →
          R (.bool false) wv_17) ∧
        ((!(t43 == t34)) = false →
          laws_FnExactBookOpen_j1 aName aCur r t34 r_1 r_3 wv_17 R))) ∧
    ((decide ((t62 : Int) < 0)) = false →
      ∃ (t660_p : Option Addr) (t660_n : Nat) (t660_c : Nat), Loads P 28 ⟨r_3, 0, none⟩ (.agg #[(.slice t660_p t660_n t660_c)]) wv_17 ∧ ∃ (t670_p : Option Addr) (t670_n : Nat) (t670_c : Nat), Loads P 28 ⟨r_1, 0, none⟩ (.agg #[(.slice t670_p t670_n t670_c)]) wv_17 ∧ Calls P 9 ⟨[(.agg #[(.slice t660_p t660_n t660_c)]), (.agg #[(.slice t670_p t670_n t670_c)])]⟩ wv_17 fun e_15 wv_26 =>
      ∃ (t68 : Bool), e_15 = .returned (.bool t68) ∧
      ((!t68) = true →
        (true = true →
          R (.bool false) wv_26) ∧
        (true = false →
          laws_FnExactBookOpen_j1 aName aCur r t34 r_1 r_3 wv_26 R)) ∧
      ((!t68) = false →
        ((!(t43 == t34)) = true →
          R (.bool false) wv_26) ∧
        ((!(t43 == t34)) = false →
          laws_FnExactBookOpen_j1 aName aCur r t34 r_1 r_3 wv_26 R))))
def laws_FnExactBookOpen (aB0_p : Option Addr) (aB0_n : Nat) (aB0_c : Nat) (aName : ByteArray) (aCur : ByteArray) (w : World) (R : Value → World → Prop) : Prop :=
  ∀ (r : Nat) (wv : World), New w (.cells ⟨[(.slice aB0_p aB0_n aB0_c)]⟩ 24 (0, 0)) r wv →
  ((decide ((1048576 : Int) < ((aName.size : Nat) : Int))) = true →
    R (.bool true) wv) ∧
  ((decide ((1048576 : Int) < ((aName.size : Nat) : Int))) = false →
    ((decide ((1048576 : Int) < ((aCur.size : Nat) : Int))) = true →
      R (.bool true) wv) ∧
    ((decide ((1048576 : Int) < ((aCur.size : Nat) : Int))) = false →
      ∃ (t240_p : Option Addr) (t240_n : Nat) (t240_c : Nat), Loads P 24 ⟨r, 0, none⟩ (.agg #[(.slice t240_p t240_n t240_c)]) wv ∧ Calls P 5 ⟨[(.agg #[(.slice t240_p t240_n t240_c)]), (.int .i64 1048576)]⟩ wv fun e wv_1 =>
      ∃ (t26 : Int), e = .returned (.int .i64 t26) ∧
      ((decide ((t26 : Int) < 0)) = true →
        R (.bool true) wv_1) ∧
      ((decide ((t26 : Int) < 0)) = false →
        ∃ (t300_p : Option Addr) (t300_n : Nat) (t300_c : Nat), Loads P 24 ⟨r, 0, none⟩ (.agg #[(.slice t300_p t300_n t300_c)]) wv_1 ∧ Calls P 7 ⟨[(.agg #[(.slice t300_p t300_n t300_c)])]⟩ wv_1 fun e_1 wv_2 =>
        ∃ (t310_p : Option Addr) (t310_n : Nat) (t310_c : Nat), e_1 = .returned (.agg #[(.slice t310_p t310_n t310_c)]) ∧
        Calls P 6 ⟨[(.agg #[(.slice t310_p t310_n t310_c)]), (.string aName), (.string aCur)]⟩ wv_2 fun e_2 wv_3 =>
        ∃ (t340_p : Option Addr) (t340_n : Nat) (t340_c : Nat) (t34 : Bool), e_2 = .returned (.tuple #[(.agg #[(.slice t340_p t340_n t340_c)]), (.bool t34)]) ∧
        ∀ (r_1 : Nat) (wv_4 : World), New wv_3 (.cells ⟨[(.slice none 0 0)]⟩ 28 (0, 0)) r_1 wv_4 →
        ∃ wv_5, Stores P 28 ⟨r_1, 0, none⟩ (.agg #[(.slice t340_p t340_n t340_c)]) wv_4 wv_5 ∧
        ∃ (t370_p : Option Addr) (t370_n : Nat) (t370_c : Nat), Loads P 24 ⟨r, 0, none⟩ (.agg #[(.slice t370_p t370_n t370_c)]) wv_5 ∧ Calls P 7 ⟨[(.agg #[(.slice t370_p t370_n t370_c)])]⟩ wv_5 fun e_3 wv_6 =>
        ∃ (t380_p : Option Addr) (t380_n : Nat) (t380_c : Nat), e_3 = .returned (.agg #[(.slice t380_p t380_n t380_c)]) ∧
        ∀ (r_2 : Nat) (wv_7 : World), New wv_6 (.cells ⟨[(.slice none 0 0)]⟩ 28 (0, 0)) r_2 wv_7 →
        ∃ wv_8, Stores P 28 ⟨r_2, 0, none⟩ (.agg #[(.slice t380_p t380_n t380_c)]) wv_7 wv_8 ∧
        ∃ (t400_p : Option Addr) (t400_n : Nat) (t400_c : Nat), Loads P 28 ⟨r_2, 0, none⟩ (.agg #[(.slice t400_p t400_n t400_c)]) wv_8 ∧ Calls P 8 ⟨[(.agg #[(.slice t400_p t400_n t400_c)]), (.string aName), (.string aCur)]⟩ wv_8 fun e_4 wv_9 =>
        ∃ (t430_p : Option Addr) (t430_n : Nat) (t430_c : Nat) (t43 : Bool), e_4 = .returned (.tuple #[(.agg #[(.slice t430_p t430_n t430_c)]), (.bool t43)]) ∧
        ∀ (r_3 : Nat) (wv_10 : World), New wv_9 (.cells ⟨[(.slice none 0 0)]⟩ 28 (0, 0)) r_3 wv_10 →
        ∃ wv_11, Stores P 28 ⟨r_3, 0, none⟩ (.agg #[(.slice t430_p t430_n t430_c)]) wv_10 wv_11 ∧
        ∃ (t460_p : Option Addr) (t460_n : Nat) (t460_c : Nat), Loads P 28 ⟨r_3, 0, none⟩ (.agg #[(.slice t460_p t460_n t460_c)]) wv_11 ∧ ∃ (t470_p : Option Addr) (t470_n : Nat) (t470_c : Nat), Loads P 28 ⟨r_1, 0, none⟩ (.agg #[(.slice t470_p t470_n t470_c)]) wv_11 ∧ Calls P 9 ⟨[(.agg #[(.slice t460_p t460_n t460_c)]), (.agg #[(.slice t470_p t470_n t470_c)])]⟩ wv_11 fun e_5 wv_12 =>
        ∃ (t48 : Bool), e_5 = .returned (.bool t48) ∧
        ((!t48) = true →
          (true = true →
            R (.bool false) wv_12) ∧
          (true = false →
            laws_FnExactBookOpen_j0 aName aCur r t34 r_1 r_2 t43 r_3 wv_12 R)) ∧
        ((!t48) = false →
          ((!(t43 == t34)) = true →
            R (.bool false) wv_12) ∧
          ((!(t43 == t34)) = false →
            laws_FnExactBookOpen_j0 aName aCur r t34 r_1 r_2 t43 r_3 wv_12 R)))))
theorem laws_FnExactBookOpen_eq (aB0_p : Option Addr) (aB0_n : Nat) (aB0_c : Nat) (aName : ByteArray) (aCur : ByteArray) (w : World) (R : Value → World → Prop) : laws_FnExactBookOpen aB0_p aB0_n aB0_c aName aCur w R = fsem P Tryd.f3 (fun k => []) [(.agg #[(.slice aB0_p aB0_n aB0_c)]), (.string aName), (.string aCur)] R w := by kernel_rfl
theorem laws_FnExactBookOpen_ret {aB0_p : Option Addr} {aB0_n : Nat} {aB0_c : Nat} {aName : ByteArray} {aCur : ByteArray} {w : World} {R : Value → World → Prop} (h : laws_FnExactBookOpen aB0_p aB0_n aB0_c aName aCur w R) : Ret P 3 [(.agg #[(.slice aB0_p aB0_n aB0_c)]), (.string aName), (.string aCur)] w R :=
  Ret.of_fsem Tryd.func3 rfl (Eq.mp (laws_FnExactBookOpen_eq aB0_p aB0_n aB0_c aName aCur w R) h)
def spec_BookOpen_j0 (name : ByteArray) (cur : ByteArray) (r : Nat) (r_1 : Nat) (W : World) (R : Value → World → Prop) : Prop :=
  ∃ (t220_p : Option Addr) (t220_n : Nat) (t220_c : Nat), Loads P 28 ⟨r, 0, none⟩ (.agg #[(.slice t220_p t220_n t220_c)]) W ∧ Calls P 21 ⟨[(.agg #[(.slice t220_p t220_n t220_c)])]⟩ W fun e_1 wv_4 =>
  ∃ (t230_p : Option Addr) (t230_n : Nat) (t230_c : Nat), e_1 = .returned (.agg #[(.slice t230_p t230_n t230_c)]) ∧
  ∀ (r_2 : Nat) (wv_5 : World), New wv_4 (.cells ⟨[(.slice none 0 0)]⟩ 28 (0, 0)) r_2 wv_5 →
  ∃ wv_6, Stores P 28 ⟨r_2, 0, none⟩ (.agg #[(.slice t230_p t230_n t230_c)]) wv_5 wv_6 ∧
  ∃ (Inv : Int → World → Prop) (mu : Int → World → Nat), Inv 0 wv_6 ∧
  ∀ (junk : Fr) (wv_7 : World) (k : Int), Inv k wv_7 →
    ∃ (t26_p : Option Addr) (t26_n : Nat) (t26_c : Nat), Loads P 26 ((⟨r_2, 0, none⟩ : Addr).add 0) (.slice t26_p t26_n t26_c) wv_7 ∧ ((decide ((k : Int) < ((t26_n : Nat) : Int))) = true →
      ∃ (t31_p : Option Addr) (t31_n : Nat) (t31_c : Nat), Loads P 26 ((⟨r_2, 0, none⟩ : Addr).add 0) (.slice t31_p t31_n t31_c) wv_7 ∧ (0 ≤ (k : Int) ∧ (k : Int) < (t31_n : Nat)) ∧ ptrS t31_p fun ad => ∃ (t35 : ByteArray), Loads P 9 ((ad.add (k.toNat * 4)).add 0) (.string t35) wv_7 ∧ ((Op.bytesLess t35.toList name.toList) = true →
        ∃ t40 : Int, t40 = IntKind.wrap .i64 (k + 1) ∧ Inv t40 wv_7 ∧ mu t40 wv_7 < mu k wv_7) ∧
      ((Op.bytesLess t35.toList name.toList) = false →
        ∀ (r_3 : Nat) (wv_8 : World), New wv_7 (.cells ⟨[]⟩ 54 (0, 0)) r_3 wv_8 →
        ∃ (t43_p : Option Addr) (t43_n : Nat) (t43_c : Nat), Loads P 26 ((⟨r_2, 0, none⟩ : Addr).add 0) (.slice t43_p t43_n t43_c) wv_8 ∧ (0 ≤ (k : Int) ∧ (k : Int) ≤ (t43_c : Nat)) ∧ ∃ (t46_p : Option Addr) (t46_n : Nat) (t46_c : Nat) (wv_9 : World), Appends P [26, 26] [(.slice (some ⟨r_3, 0, none⟩) 0 0), (.slice (sub t43_p 0 t43_c 4) (k.toNat - 0) (t43_c - 0))] (.slice t46_p t46_n t46_c) wv_8 wv_9 ∧
        ∀ (r_4 : Nat) (wv_10 : World), New wv_9 (.cells ⟨[(.string name), (.string cur), (.bool false), (.slice none 0 0)]⟩ 54 (0, 0)) r_4 wv_10 →
        ∃ (t53_p : Option Addr) (t53_n : Nat) (t53_c : Nat) (wv_11 : World), Appends P [26, 26] [(.slice t46_p t46_n t46_c), (.slice (some ⟨r_4, 0, none⟩) 1 1)] (.slice t53_p t53_n t53_c) wv_10 wv_11 ∧
        ∃ (t56_p : Option Addr) (t56_n : Nat) (t56_c : Nat), Loads P 26 ((⟨r_2, 0, none⟩ : Addr).add 0) (.slice t56_p t56_n t56_c) wv_11 ∧ (0 ≤ (k : Int) ∧ (k : Int) ≤ (t56_n : Nat)) ∧ ∃ (t59_p : Option Addr) (t59_n : Nat) (t59_c : Nat) (wv_12 : World), Appends P [26, 26] [(.slice t53_p t53_n t53_c), (.slice (sub t56_p k.toNat t56_c 4) (t56_n - k.toNat) (t56_c - k.toNat))] (.slice t59_p t59_n t59_c) wv_11 wv_12 ∧
        ∀ (r_5 : Nat) (wv_13 : World), New wv_12 (.cells ⟨[(.slice none 0 0)]⟩ 28 (0, 0)) r_5 wv_13 →
        ∃ wv_14, Stores P 28 ⟨r_5, 0, none⟩ (.agg #[(.slice t59_p t59_n t59_c)]) wv_13 wv_14 ∧
        ∃ (t610_p : Option Addr) (t610_n : Nat) (t610_c : Nat), Loads P 28 ⟨r_5, 0, none⟩ (.agg #[(.slice t610_p t610_n t610_c)]) wv_14 ∧ Calls P 19 ⟨[(.agg #[(.slice t610_p t610_n t610_c)])]⟩ wv_14 fun e_2 wv_15 =>
        ∃ (t62 : Bool), e_2 = .returned (.bool t62) ∧
        ((!t62) = true →
          ∃ wv_16, Stores P 28 ⟨r_1, 0, none⟩ (.agg #[(.slice none 0 0)]) wv_15 wv_16 ∧
          ∃ (r0_p_1 : Option Addr) (r0_n_1 : Nat) (r0_c_1 : Nat), Loads P 28 ⟨r_1, 0, none⟩ (.agg #[(.slice r0_p_1 r0_n_1 r0_c_1)]) wv_16 ∧ R (.tuple #[(.agg #[(.slice r0_p_1 r0_n_1 r0_c_1)]), (.bool false)]) wv_16) ∧
        ((!t62) = false →
          ∃ (t650_p : Option Addr) (t650_n : Nat) (t650_c : Nat), Loads P 28 ⟨r_5, 0, none⟩ (.agg #[(.slice t650_p t650_n t650_c)]) wv_15 ∧ ∃ wv_17, Stores P 28 ⟨r_1, 0, none⟩ (.agg #[(.slice t650_p t650_n t650_c)]) wv_15 wv_17 ∧
          ∃ (r0_p_2 : Option Addr) (r0_n_2 : Nat) (r0_c_2 : Nat), Loads P 28 ⟨r_1, 0, none⟩ (.agg #[(.slice r0_p_2 r0_n_2 r0_c_2)]) wv_17 ∧ R (.tuple #[(.agg #[(.slice r0_p_2 r0_n_2 r0_c_2)]), (.bool true)]) wv_17))) ∧
    ((decide ((k : Int) < ((t26_n : Nat) : Int))) = false →
      (false = true →
        ∃ t40_1 : Int, t40_1 = IntKind.wrap .i64 (k + 1) ∧ Inv t40_1 wv_7 ∧ mu t40_1 wv_7 < mu k wv_7) ∧
      (false = false →
        ∀ (r_6 : Nat) (wv_18 : World), New wv_7 (.cells ⟨[]⟩ 54 (0, 0)) r_6 wv_18 →
        ∃ (t43_p_1 : Option Addr) (t43_n_1 : Nat) (t43_c_1 : Nat), Loads P 26 ((⟨r_2, 0, none⟩ : Addr).add 0) (.slice t43_p_1 t43_n_1 t43_c_1) wv_18 ∧ (0 ≤ (k : Int) ∧ (k : Int) ≤ (t43_c_1 : Nat)) ∧ ∃ (t46_p_1 : Option Addr) (t46_n_1 : Nat) (t46_c_1 : Nat) (wv_19 : World), Appends P [26, 26] [(.slice (some ⟨r_6, 0, none⟩) 0 0), (.slice (sub t43_p_1 0 t43_c_1 4) (k.toNat - 0) (t43_c_1 - 0))] (.slice t46_p_1 t46_n_1 t46_c_1) wv_18 wv_19 ∧
        ∀ (r_7 : Nat) (wv_20 : World), New wv_19 (.cells ⟨[(.string name), (.string cur), (.bool false), (.slice none 0 0)]⟩ 54 (0, 0)) r_7 wv_20 →
        ∃ (t53_p_1 : Option Addr) (t53_n_1 : Nat) (t53_c_1 : Nat) (wv_21 : World), Appends P [26, 26] [(.slice t46_p_1 t46_n_1 t46_c_1), (.slice (some ⟨r_7, 0, none⟩) 1 1)] (.slice t53_p_1 t53_n_1 t53_c_1) wv_20 wv_21 ∧
        ∃ (t56_p_1 : Option Addr) (t56_n_1 : Nat) (t56_c_1 : Nat), Loads P 26 ((⟨r_2, 0, none⟩ : Addr).add 0) (.slice t56_p_1 t56_n_1 t56_c_1) wv_21 ∧ (0 ≤ (k : Int) ∧ (k : Int) ≤ (t56_n_1 : Nat)) ∧ ∃ (t59_p_1 : Option Addr) (t59_n_1 : Nat) (t59_c_1 : Nat) (wv_22 : World), Appends P [26, 26] [(.slice t53_p_1 t53_n_1 t53_c_1), (.slice (sub t56_p_1 k.toNat t56_c_1 4) (t56_n_1 - k.toNat) (t56_c_1 - k.toNat))] (.slice t59_p_1 t59_n_1 t59_c_1) wv_21 wv_22 ∧
        ∀ (r_8 : Nat) (wv_23 : World), New wv_22 (.cells ⟨[(.slice none 0 0)]⟩ 28 (0, 0)) r_8 wv_23 →
        ∃ wv_24, Stores P 28 ⟨r_8, 0, none⟩ (.agg #[(.slice t59_p_1 t59_n_1 t59_c_1)]) wv_23 wv_24 ∧
        ∃ (t610_p_1 : Option Addr) (t610_n_1 : Nat) (t610_c_1 : Nat), Loads P 28 ⟨r_8, 0, none⟩ (.agg #[(.slice t610_p_1 t610_n_1 t610_c_1)]) wv_24 ∧ Calls P 19 ⟨[(.agg #[(.slice t610_p_1 t610_n_1 t610_c_1)])]⟩ wv_24 fun e_3 wv_25 =>
        ∃ (t62_1 : Bool), e_3 = .returned (.bool t62_1) ∧
        ((!t62_1) = true →
          ∃ wv_26, Stores P 28 ⟨r_1, 0, none⟩ (.agg #[(.slice none 0 0)]) wv_25 wv_26 ∧
          ∃ (r0_p_3 : Option Addr) (r0_n_3 : Nat) (r0_c_3 : Nat), Loads P 28 ⟨r_1, 0, none⟩ (.agg #[(.slice r0_p_3 r0_n_3 r0_c_3)]) wv_26 ∧ R (.tuple #[(.agg #[(.slice r0_p_3 r0_n_3 r0_c_3)]), (.bool false)]) wv_26) ∧
        ((!t62_1) = false →
          ∃ (t650_p_1 : Option Addr) (t650_n_1 : Nat) (t650_c_1 : Nat), Loads P 28 ⟨r_8, 0, none⟩ (.agg #[(.slice t650_p_1 t650_n_1 t650_c_1)]) wv_25 ∧ ∃ wv_27, Stores P 28 ⟨r_1, 0, none⟩ (.agg #[(.slice t650_p_1 t650_n_1 t650_c_1)]) wv_25 wv_27 ∧
          ∃ (r0_p_4 : Option Addr) (r0_n_4 : Nat) (r0_c_4 : Nat), Loads P 28 ⟨r_1, 0, none⟩ (.agg #[(.slice r0_p_4 r0_n_4 r0_c_4)]) wv_27 ∧ R (.tuple #[(.agg #[(.slice r0_p_4 r0_n_4 r0_c_4)]), (.bool true)]) wv_27)))
def spec_BookOpen (b0_p : Option Addr) (b0_n : Nat) (b0_c : Nat) (name : ByteArray) (cur : ByteArray) (w : World) (R : Value → World → Prop) : Prop :=
  ∀ (r : Nat) (wv : World), New w (.cells ⟨[(.slice b0_p b0_n b0_c)]⟩ 28 (0, 0)) r wv →
  ∀ (r_1 : Nat) (wv_1 : World), New wv (.cells ⟨[(.slice none 0 0)]⟩ 28 (0, 0)) r_1 wv_1 →
  ∃ (t120_p : Option Addr) (t120_n : Nat) (t120_c : Nat), Loads P 28 ⟨r, 0, none⟩ (.agg #[(.slice t120_p t120_n t120_c)]) wv_1 ∧ Calls P 19 ⟨[(.agg #[(.slice t120_p t120_n t120_c)])]⟩ wv_1 fun e wv_2 =>
  ∃ (t13 : Bool), e = .returned (.bool t13) ∧
  ((!t13) = true →
    (true = true →
      ∃ wv_3, Stores P 28 ⟨r_1, 0, none⟩ (.agg #[(.slice none 0 0)]) wv_2 wv_3 ∧
      ∃ (r0_p : Option Addr) (r0_n : Nat) (r0_c : Nat), Loads P 28 ⟨r_1, 0, none⟩ (.agg #[(.slice r0_p r0_n r0_c)]) wv_3 ∧ R (.tuple #[(.agg #[(.slice r0_p r0_n r0_c)]), (.bool false)]) wv_3) ∧
    (true = false →
      spec_BookOpen_j0 name cur r r_1 wv_2 R)) ∧
  ((!t13) = false →
    ∃ (t160_p : Option Addr) (t160_n : Nat) (t160_c : Nat), Loads P 28 ⟨r, 0, none⟩ (.agg #[(.slice t160_p t160_n t160_c)]) wv_2 ∧ Calls P 20 ⟨[(.agg #[(.slice t160_p t160_n t160_c)]), (.string name)]⟩ wv_2 fun e_4 wv_28 =>
    ∃ (t18 : Int), e_4 = .returned (.int .i64 t18) ∧
    ((decide ((0 : Int) ≤ t18)) = true →
      ∃ wv_29, Stores P 28 ⟨r_1, 0, none⟩ (.agg #[(.slice none 0 0)]) wv_28 wv_29 ∧
      ∃ (r0_p_5 : Option Addr) (r0_n_5 : Nat) (r0_c_5 : Nat), Loads P 28 ⟨r_1, 0, none⟩ (.agg #[(.slice r0_p_5 r0_n_5 r0_c_5)]) wv_29 ∧ R (.tuple #[(.agg #[(.slice r0_p_5 r0_n_5 r0_c_5)]), (.bool false)]) wv_29) ∧
    ((decide ((0 : Int) ≤ t18)) = false →
      spec_BookOpen_j0 name cur r r_1 wv_28 R))
theorem spec_BookOpen_eq (b0_p : Option Addr) (b0_n : Nat) (b0_c : Nat) (name : ByteArray) (cur : ByteArray) (w : World) (R : Value → World → Prop) : spec_BookOpen b0_p b0_n b0_c name cur w R = fsem P Tryd.f6 (fun k => cond (Nat.beq k 6) [(9, .one (.int .i64))] ([])) [(.agg #[(.slice b0_p b0_n b0_c)]), (.string name), (.string cur)] R w := by kernel_rfl
theorem spec_BookOpen_ret {b0_p : Option Addr} {b0_n : Nat} {b0_c : Nat} {name : ByteArray} {cur : ByteArray} {w : World} {R : Value → World → Prop} (h : spec_BookOpen b0_p b0_n b0_c name cur w R) : Ret P 6 [(.agg #[(.slice b0_p b0_n b0_c)]), (.string name), (.string cur)] w R :=
  Ret.of_fsem Tryd.func6 rfl (Eq.mp (spec_BookOpen_eq b0_p b0_n b0_c name cur w R) h)
def impl_BookOpen (b0_p : Option Addr) (b0_n : Nat) (b0_c : Nat) (name : ByteArray) (cur : ByteArray) (w : World) (R : Value → World → Prop) : Prop :=
  ∀ (r : Nat) (wv : World), New w (.cells ⟨[(.slice b0_p b0_n b0_c)]⟩ 28 (0, 0)) r wv →
  ∀ (r_1 : Nat) (wv_1 : World), New wv (.cells ⟨[(.string name)]⟩ 9 (0, 0)) r_1 wv_1 →
  ∀ (r_2 : Nat) (wv_2 : World), New wv_1 (.cells ⟨[(.string cur)]⟩ 9 (0, 0)) r_2 wv_2 →
  ∀ (r_3 : Nat) (wv_3 : World), New wv_2 (.cells ⟨[(.slice none 0 0)]⟩ 28 (0, 0)) r_3 wv_3 →
  ∃ (t80_p : Option Addr) (t80_n : Nat) (t80_c : Nat), Loads P 28 ⟨r, 0, none⟩ (.agg #[(.slice t80_p t80_n t80_c)]) wv_3 ∧ Calls P 23 ⟨[(.agg #[(.slice t80_p t80_n t80_c)])]⟩ wv_3 fun e wv_4 =>
  ∃ (t9 : Bool), e = .returned (.bool t9) ∧
  ((!t9) = true →
    (true = true →
      ∃ wv_5, Stores P 28 ⟨r_3, 0, none⟩ (.agg #[(.slice none 0 0)]) wv_4 wv_5 ∧
      ∃ (r0_p : Option Addr) (r0_n : Nat) (r0_c : Nat), Loads P 28 ⟨r_3, 0, none⟩ (.agg #[(.slice r0_p r0_n r0_c)]) wv_5 ∧ R (.tuple #[(.agg #[(.slice r0_p r0_n r0_c)]), (.bool false)]) wv_5) ∧
    (true = false →
      ∃ (t180_p : Option Addr) (t180_n : Nat) (t180_c : Nat), Loads P 28 ⟨r, 0, none⟩ (.agg #[(.slice t180_p t180_n t180_c)]) wv_4 ∧ Calls P 25 ⟨[(.agg #[(.slice t180_p t180_n t180_c)]), (.func (.func 26) #[] #[(.pointer (some ⟨r_1, 0, none⟩)), (.pointer (some ⟨r_2, 0, none⟩))])]⟩ wv_4 fun e_1 wv_6 =>
      ∃ (t200_p : Option Addr) (t200_n : Nat) (t200_c : Nat) (t20 : Bool), e_1 = .returned (.tuple #[(.agg #[(.slice t200_p t200_n t200_c)]), (.bool t20)]) ∧
      ∃ wv_7, Stores P 28 ⟨r_3, 0, none⟩ (.agg #[(.slice t200_p t200_n t200_c)]) wv_6 wv_7 ∧
      ∃ (r0_p_1 : Option Addr) (r0_n_1 : Nat) (r0_c_1 : Nat), Loads P 28 ⟨r_3, 0, none⟩ (.agg #[(.slice r0_p_1 r0_n_1 r0_c_1)]) wv_7 ∧ R (.tuple #[(.agg #[(.slice r0_p_1 r0_n_1 r0_c_1)]), (.bool t20)]) wv_7)) ∧
  ((!t9) = false →
    ∃ (t120_p : Option Addr) (t120_n : Nat) (t120_c : Nat), Loads P 28 ⟨r, 0, none⟩ (.agg #[(.slice t120_p t120_n t120_c)]) wv_4 ∧ ∃ (t13 : ByteArray), Loads P 9 ⟨r_1, 0, none⟩ (.string t13) wv_4 ∧ Calls P 24 ⟨[(.agg #[(.slice t120_p t120_n t120_c)]), (.string t13)]⟩ wv_4 fun e_2 wv_8 =>
    ∃ (t14 : Int), e_2 = .returned (.int .i64 t14) ∧
    ((decide ((0 : Int) ≤ t14)) = true →
      ∃ wv_9, Stores P 28 ⟨r_3, 0, none⟩ (.agg #[(.slice none 0 0)]) wv_8 wv_9 ∧
      ∃ (r0_p_2 : Option Addr) (r0_n_2 : Nat) (r0_c_2 : Nat), Loads P 28 ⟨r_3, 0, none⟩ (.agg #[(.slice r0_p_2 r0_n_2 r0_c_2)]) wv_9 ∧ R (.tuple #[(.agg #[(.slice r0_p_2 r0_n_2 r0_c_2)]), (.bool false)]) wv_9) ∧
    ((decide ((0 : Int) ≤ t14)) = false →
      ∃ (t180_p_1 : Option Addr) (t180_n_1 : Nat) (t180_c_1 : Nat), Loads P 28 ⟨r, 0, none⟩ (.agg #[(.slice t180_p_1 t180_n_1 t180_c_1)]) wv_8 ∧ Calls P 25 ⟨[(.agg #[(.slice t180_p_1 t180_n_1 t180_c_1)]), (.func (.func 26) #[] #[(.pointer (some ⟨r_1, 0, none⟩)), (.pointer (some ⟨r_2, 0, none⟩))])]⟩ wv_8 fun e_3 wv_10 =>
      ∃ (t200_p_1 : Option Addr) (t200_n_1 : Nat) (t200_c_1 : Nat) (t20_1 : Bool), e_3 = .returned (.tuple #[(.agg #[(.slice t200_p_1 t200_n_1 t200_c_1)]), (.bool t20_1)]) ∧
      ∃ wv_11, Stores P 28 ⟨r_3, 0, none⟩ (.agg #[(.slice t200_p_1 t200_n_1 t200_c_1)]) wv_10 wv_11 ∧
      ∃ (r0_p_3 : Option Addr) (r0_n_3 : Nat) (r0_c_3 : Nat), Loads P 28 ⟨r_3, 0, none⟩ (.agg #[(.slice r0_p_3 r0_n_3 r0_c_3)]) wv_11 ∧ R (.tuple #[(.agg #[(.slice r0_p_3 r0_n_3 r0_c_3)]), (.bool t20_1)]) wv_11))
theorem impl_BookOpen_eq (b0_p : Option Addr) (b0_n : Nat) (b0_c : Nat) (name : ByteArray) (cur : ByteArray) (w : World) (R : Value → World → Prop) : impl_BookOpen b0_p b0_n b0_c name cur w R = fsem P Tryd.f8 (fun k => []) [(.agg #[(.slice b0_p b0_n b0_c)]), (.string name), (.string cur)] R w := by kernel_rfl
theorem impl_BookOpen_ret {b0_p : Option Addr} {b0_n : Nat} {b0_c : Nat} {name : ByteArray} {cur : ByteArray} {w : World} {R : Value → World → Prop} (h : impl_BookOpen b0_p b0_n b0_c name cur w R) : Ret P 8 [(.agg #[(.slice b0_p b0_n b0_c)]), (.string name), (.string cur)] w R :=
  Ret.of_fsem Tryd.func8 rfl (Eq.mp (impl_BookOpen_eq b0_p b0_n b0_c name cur w R) h)
def spec_BookOk (b0_p : Option Addr) (b0_n : Nat) (b0_c : Nat) (w : World) (R : Value → World → Prop) : Prop :=
  ∀ (r : Nat) (wv : World), New w (.cells ⟨[(.slice b0_p b0_n b0_c)]⟩ 28 (0, 0)) r wv →
  ∃ (t6_p : Option Addr) (t6_n : Nat) (t6_c : Nat), Loads P 26 ((⟨r, 0, none⟩ : Addr).add 0) (.slice t6_p t6_n t6_c) wv ∧ ∃ (Inv : Int → World → Prop) (mu : Int → World → Nat), Inv 0 wv ∧
  ∀ (junk : Fr) (wv_1 : World) (t8 : Int), Inv t8 wv_1 →
    ((decide ((t8 : Int) < ((t6_n : Nat) : Int))) = true →
      (0 ≤ (t8 : Int) ∧ (t8 : Int) < (t6_n : Nat)) ∧ ptrS t6_p fun ad => ∃ (t120 : ByteArray) (t121 : ByteArray) (t122 : Bool) (t123_p : Option Addr) (t123_n : Nat) (t123_c : Nat), Loads P 54 (ad.add (t8.toNat * 4)) (.agg #[(.string t120), (.string t121), (.bool t122), (.slice t123_p t123_n t123_c)]) wv_1 ∧ ∀ (r_1 : Nat) (wv_2 : World), New wv_1 (.cells ⟨[(.string ByteArray.empty), (.string ByteArray.empty), (.bool false), (.slice none 0 0)]⟩ 54 (0, 0)) r_1 wv_2 →
      ∃ wv_3, Stores P 54 ⟨r_1, 0, none⟩ (.agg #[(.string t120), (.string t121), (.bool t122), (.slice t123_p t123_n t123_c)]) wv_2 wv_3 ∧
      ∃ (t14 : ByteArray), (∀ wv_4, Ext wv_3.drew wv_4 → Loads P 9 ((⟨r_1, 0, none⟩ : Addr).add 0) (.string t14) wv_4) ∧ Calls P 39 ⟨[(.string t14)]⟩ wv_3.drew fun e wv_5 =>
      ∃ (t15 : Bool), e = .returned (.bool t15) ∧
      ((!t15) = true →
        (true = true →
          (true = true →
            R (.bool false) wv_5) ∧
          (true = false →
            ∃ t39 : Int, t39 = IntKind.wrap .i64 (t8 + 1) ∧ Inv t39 wv_5 ∧ mu t39 wv_5 < mu t8 wv_1)) ∧
        (true = false →
          ((decide ((0 : Int) < t8)) = true →
            ∃ (t28_p : Option Addr) (t28_n : Nat) (t28_c : Nat), (∀ wv_6, Ext wv_5 wv_6 → Loads P 26 ((⟨r, 0, none⟩ : Addr).add 0) (.slice t28_p t28_n t28_c) wv_6) ∧ ∃ t30 : Int, t30 = IntKind.wrap .i64 (t8 - 1) ∧ (0 ≤ (t30 : Int) ∧ (t30 : Int) < (t28_n : Nat)) ∧ ptrS t28_p fun ad_1 => ∃ (t33 : ByteArray), (∀ wv_7, Ext wv_5 wv_7 → Loads P 9 ((ad_1.add (t30.toNat * 4)).add 0) (.string t33) wv_7) ∧ ∃ (t35 : ByteArray), (∀ wv_8, Ext wv_5 wv_8 → Loads P 9 ((⟨r_1, 0, none⟩ : Addr).add 0) (.string t35) wv_8) ∧ ((!(Op.bytesLess t33.toList t35.toList)) = true →
              R (.bool false) wv_5) ∧
            ((!(Op.bytesLess t33.toList t35.toList)) = false →
              ∃ t39_1 : Int, t39_1 = IntKind.wrap .i64 (t8 + 1) ∧ Inv t39_1 wv_5 ∧ mu t39_1 wv_5 < mu t8 wv_1)) ∧
          ((decide ((0 : Int) < t8)) = false →
            (false = true →
              R (.bool false) wv_5) ∧
            (false = false →
              ∃ t39_2 : Int, t39_2 = IntKind.wrap .i64 (t8 + 1) ∧ Inv t39_2 wv_5 ∧ mu t39_2 wv_5 < mu t8 wv_1)))) ∧
      ((!t15) = false →
        ∃ (t190 : ByteArray) (t191 : Bool) (t192_p : Option Addr) (t192_n : Nat) (t192_c : Nat), (∀ wv_9, Ext wv_5 wv_9 → Loads P 44 ((⟨r_1, 0, none⟩ : Addr).add 1) (.agg #[(.string t190), (.bool t191), (.slice t192_p t192_n t192_c)]) wv_9) ∧ Calls P 40 ⟨[(.agg #[(.string t190), (.bool t191), (.slice t192_p t192_n t192_c)])]⟩ wv_5 fun e_1 wv_10 =>
        ∃ (t20 : Bool), e_1 = .returned (.bool t20) ∧
        ((!t20) = true →
          (true = true →
            R (.bool false) wv_10) ∧
          (true = false →
            ∃ t39_3 : Int, t39_3 = IntKind.wrap .i64 (t8 + 1) ∧ Inv t39_3 wv_10 ∧ mu t39_3 wv_10 < mu t8 wv_1)) ∧
        ((!t20) = false →
          ((decide ((0 : Int) < t8)) = true →
            ∃ (t28_p_1 : Option Addr) (t28_n_1 : Nat) (t28_c_1 : Nat), (∀ wv_11, Ext wv_10 wv_11 → Loads P 26 ((⟨r, 0, none⟩ : Addr).add 0) (.slice t28_p_1 t28_n_1 t28_c_1) wv_11) ∧ ∃ t30_1 : Int, t30_1 = IntKind.wrap .i64 (t8 - 1) ∧ (0 ≤ (t30_1 : Int) ∧ (t30_1 : Int) < (t28_n_1 : Nat)) ∧ ptrS t28_p_1 fun ad_2 => ∃ (t33_1 : ByteArray), (∀ wv_12, Ext wv_10 wv_12 → Loads P 9 ((ad_2.add (t30_1.toNat * 4)).add 0) (.string t33_1) wv_12) ∧ ∃ (t35_1 : ByteArray), (∀ wv_13, Ext wv_10 wv_13 → Loads P 9 ((⟨r_1, 0, none⟩ : Addr).add 0) (.string t35_1) wv_13) ∧ ((!(Op.bytesLess t33_1.toList t35_1.toList)) = true →
              R (.bool false) wv_10) ∧
            ((!(Op.bytesLess t33_1.toList t35_1.toList)) = false →
              ∃ t39_4 : Int, t39_4 = IntKind.wrap .i64 (t8 + 1) ∧ Inv t39_4 wv_10 ∧ mu t39_4 wv_10 < mu t8 wv_1)) ∧
          ((decide ((0 : Int) < t8)) = false →
            (false = true →
              R (.bool false) wv_10) ∧
            (false = false →
              ∃ t39_5 : Int, t39_5 = IntKind.wrap .i64 (t8 + 1) ∧ Inv t39_5 wv_10 ∧ mu t39_5 wv_10 < mu t8 wv_1))))) ∧
    ((decide ((t8 : Int) < ((t6_n : Nat) : Int))) = false →
      ∃ (t41_p : Option Addr) (t41_n : Nat) (t41_c : Nat), Loads P 26 ((⟨r, 0, none⟩ : Addr).add 0) (.slice t41_p t41_n t41_c) wv_1 ∧ R (.bool (decide ((((t41_n : Nat) : Int) : Int) ≤ 12))) wv_1)
theorem spec_BookOk_eq (b0_p : Option Addr) (b0_n : Nat) (b0_c : Nat) (w : World) (R : Value → World → Prop) : spec_BookOk b0_p b0_n b0_c w R = fsem P Tryd.f19 (fun k => cond (Nat.beq k 3) [(8, .one (.int .i64))] ([])) [(.agg #[(.slice b0_p b0_n b0_c)])] R w := by kernel_rfl
theorem spec_BookOk_ret {b0_p : Option Addr} {b0_n : Nat} {b0_c : Nat} {w : World} {R : Value → World → Prop} (h : spec_BookOk b0_p b0_n b0_c w R) : Ret P 19 [(.agg #[(.slice b0_p b0_n b0_c)])] w R :=
  Ret.of_fsem Tryd.func19 rfl (Eq.mp (spec_BookOk_eq b0_p b0_n b0_c w R) h)
def spec_AcctAt (b0_p : Option Addr) (b0_n : Nat) (b0_c : Nat) (name : ByteArray) (w : World) (R : Value → World → Prop) : Prop :=
  ∀ (r : Nat) (wv : World), New w (.cells ⟨[(.slice b0_p b0_n b0_c)]⟩ 28 (0, 0)) r wv →
  ∃ (t8_p : Option Addr) (t8_n : Nat) (t8_c : Nat), Loads P 26 ((⟨r, 0, none⟩ : Addr).add 0) (.slice t8_p t8_n t8_c) wv ∧ ∃ (Inv : Int → World → Prop) (mu : Int → World → Nat), Inv 0 wv ∧
  ∀ (junk : Fr) (wv_1 : World) (t10 : Int), Inv t10 wv_1 →
    ((decide ((t10 : Int) < ((t8_n : Nat) : Int))) = true →
      (0 ≤ (t10 : Int) ∧ (t10 : Int) < (t8_n : Nat)) ∧ ptrS t8_p fun ad => ∃ (t140 : ByteArray) (t141 : ByteArray) (t142 : Bool) (t143_p : Option Addr) (t143_n : Nat) (t143_c : Nat), Loads P 54 (ad.add (t10.toNat * 4)) (.agg #[(.string t140), (.string t141), (.bool t142), (.slice t143_p t143_n t143_c)]) wv_1 ∧ ∀ (r_1 : Nat) (wv_2 : World), New wv_1 (.cells ⟨[(.string ByteArray.empty), (.string ByteArray.empty), (.bool false), (.slice none 0 0)]⟩ 54 (0, 0)) r_1 wv_2 →
      ∃ wv_3, Stores P 54 ⟨r_1, 0, none⟩ (.agg #[(.string t140), (.string t141), (.bool t142), (.slice t143_p t143_n t143_c)]) wv_2 wv_3 ∧
      ∃ (t16 : ByteArray), Loads P 9 ((⟨r_1, 0, none⟩ : Addr).add 0) (.string t16) wv_3 ∧ ((decide (t16 = name)) = true →
        R (.int .i64 t10) wv_3) ∧
      ((decide (t16 = name)) = false →
        ∃ t20 : Int, t20 = IntKind.wrap .i64 (t10 + 1) ∧ Inv t20 wv_3 ∧ mu t20 wv_3 < mu t10 wv_1)) ∧
    ((decide ((t10 : Int) < ((t8_n : Nat) : Int))) = false →
      R (.int .i64 (-1)) wv_1)
theorem spec_AcctAt_eq (b0_p : Option Addr) (b0_n : Nat) (b0_c : Nat) (name : ByteArray) (w : World) (R : Value → World → Prop) : spec_AcctAt b0_p b0_n b0_c name w R = fsem P Tryd.f20 (fun k => cond (Nat.beq k 3) [(10, .one (.int .i64))] ([])) [(.agg #[(.slice b0_p b0_n b0_c)]), (.string name)] R w := by kernel_rfl
theorem spec_AcctAt_ret {b0_p : Option Addr} {b0_n : Nat} {b0_c : Nat} {name : ByteArray} {w : World} {R : Value → World → Prop} (h : spec_AcctAt b0_p b0_n b0_c name w R) : Ret P 20 [(.agg #[(.slice b0_p b0_n b0_c)]), (.string name)] w R :=
  Ret.of_fsem Tryd.func20 rfl (Eq.mp (spec_AcctAt_eq b0_p b0_n b0_c name w R) h)
def spec_l17Copy (b0_p : Option Addr) (b0_n : Nat) (b0_c : Nat) (w : World) (R : Value → World → Prop) : Prop :=
  ∀ (r : Nat) (wv : World), New w (.cells ⟨[(.slice b0_p b0_n b0_c)]⟩ 28 (0, 0)) r wv →
  ∀ (r_1 : Nat) (wv_1 : World), New wv (.cells ⟨[(.slice none 0 0)]⟩ 28 (0, 0)) r_1 wv_1 →
  ∀ (r_2 : Nat) (wv_2 : World), New wv_1 (.cells ⟨[(.slice none 0 0)]⟩ 28 (0, 0)) r_2 wv_2 →
  ∃ wv_3, Stores P 28 ⟨r_2, 0, none⟩ (.agg #[(.slice none 0 0)]) wv_2 wv_3 ∧
  ∃ (t8_p : Option Addr) (t8_n : Nat) (t8_c : Nat), Loads P 26 ((⟨r, 0, none⟩ : Addr).add 0) (.slice t8_p t8_n t8_c) wv_3 ∧ ∃ (Inv : Int → World → Prop) (mu : Int → World → Nat), Inv 0 wv_3 ∧
  ∀ (junk : Fr) (wv_4 : World) (t10 : Int), Inv t10 wv_4 →
    ((decide ((t10 : Int) < ((t8_n : Nat) : Int))) = true →
      (0 ≤ (t10 : Int) ∧ (t10 : Int) < (t8_n : Nat)) ∧ ptrS t8_p fun ad => ∃ (t130 : ByteArray) (t131 : ByteArray) (t132 : Bool) (t133_p : Option Addr) (t133_n : Nat) (t133_c : Nat), Loads P 54 (ad.add (t10.toNat * 4)) (.agg #[(.string t130), (.string t131), (.bool t132), (.slice t133_p t133_n t133_c)]) wv_4 ∧ ∀ (r_3 : Nat) (wv_5 : World), New wv_4 (.cells ⟨[(.string ByteArray.empty), (.string ByteArray.empty), (.bool false), (.slice none 0 0)]⟩ 54 (0, 0)) r_3 wv_5 →
      ∃ wv_6, Stores P 54 ⟨r_3, 0, none⟩ (.agg #[(.string t130), (.string t131), (.bool t132), (.slice t133_p t133_n t133_c)]) wv_5 wv_6 ∧
      ∃ (t15_p : Option Addr) (t15_n : Nat) (t15_c : Nat), (∀ wv_7, Ext wv_6.drew wv_7 → Loads P 26 ((⟨r_2, 0, none⟩ : Addr).add 0) (.slice t15_p t15_n t15_c) wv_7) ∧ ∃ (t17 : ByteArray), (∀ wv_8, Ext wv_6.drew wv_8 → Loads P 9 ((⟨r_3, 0, none⟩ : Addr).add 0) (.string t17) wv_8) ∧ ∃ (t190 : ByteArray) (t191 : Bool) (t192_p : Option Addr) (t192_n : Nat) (t192_c : Nat), (∀ wv_9, Ext wv_6.drew wv_9 → Loads P 44 ((⟨r_3, 0, none⟩ : Addr).add 1) (.agg #[(.string t190), (.bool t191), (.slice t192_p t192_n t192_c)]) wv_9) ∧ Calls P 41 ⟨[(.agg #[(.string t190), (.bool t191), (.slice t192_p t192_n t192_c)])]⟩ wv_6.drew fun e wv_10 =>
      ∃ (t200 : ByteArray) (t201 : Bool) (t202_p : Option Addr) (t202_n : Nat) (t202_c : Nat), e = .returned (.agg #[(.string t200), (.bool t201), (.slice t202_p t202_n t202_c)]) ∧
      Ext wv_6.drew wv_10 ∧ ∀ (r_4 : Nat) (wv_11 : World), New wv_10 (.cells ⟨[(.string t17), (.string t200), (.bool t201), (.slice t202_p t202_n t202_c)]⟩ 54 (0, 0)) r_4 wv_11 →
      Ext wv_10 wv_11 ∧ ∃ (t23_p : Option Addr) (t23_n : Nat) (t23_c : Nat) (wv_12 : World), Appends P [26, 26] [(.slice t15_p t15_n t15_c), (.slice (some ⟨r_4, 0, none⟩) 1 1)] (.slice t23_p t23_n t23_c) wv_11 wv_12 ∧
      ∃ wv_13, Stores P 26 ((⟨r_2, 0, none⟩ : Addr).add 0) (.slice t23_p t23_n t23_c) wv_12 wv_13 ∧
      ∃ t25 : Int, t25 = IntKind.wrap .i64 (t10 + 1) ∧ Inv t25 wv_13 ∧ mu t25 wv_13 < mu t10 wv_4) ∧
    ((decide ((t10 : Int) < ((t8_n : Nat) : Int))) = false →
      ∃ (t260_p : Option Addr) (t260_n : Nat) (t260_c : Nat), Loads P 28 ⟨r_2, 0, none⟩ (.agg #[(.slice t260_p t260_n t260_c)]) wv_4 ∧ ∃ wv_14, Stores P 28 ⟨r_1, 0, none⟩ (.agg #[(.slice t260_p t260_n t260_c)]) wv_4 wv_14 ∧
      ∃ (r0_p : Option Addr) (r0_n : Nat) (r0_c : Nat), Loads P 28 ⟨r_1, 0, none⟩ (.agg #[(.slice r0_p r0_n r0_c)]) wv_14 ∧ R (.agg #[(.slice r0_p r0_n r0_c)]) wv_14)
theorem spec_l17Copy_eq (b0_p : Option Addr) (b0_n : Nat) (b0_c : Nat) (w : World) (R : Value → World → Prop) : spec_l17Copy b0_p b0_n b0_c w R = fsem P Tryd.f21 (fun k => cond (Nat.beq k 4) [(10, .one (.int .i64))] ([])) [(.agg #[(.slice b0_p b0_n b0_c)])] R w := by kernel_rfl
theorem spec_l17Copy_ret {b0_p : Option Addr} {b0_n : Nat} {b0_c : Nat} {w : World} {R : Value → World → Prop} (h : spec_l17Copy b0_p b0_n b0_c w R) : Ret P 21 [(.agg #[(.slice b0_p b0_n b0_c)])] w R :=
  Ret.of_fsem Tryd.func21 rfl (Eq.mp (spec_l17Copy_eq b0_p b0_n b0_c w R) h)
def impl_BookOk (b0_p : Option Addr) (b0_n : Nat) (b0_c : Nat) (w : World) (R : Value → World → Prop) : Prop :=
  ∀ (r : Nat) (wv : World), New w (.cells ⟨[(.slice b0_p b0_n b0_c)]⟩ 28 (0, 0)) r wv →
  ∃ (t6_p : Option Addr) (t6_n : Nat) (t6_c : Nat), Loads P 26 ((⟨r, 0, none⟩ : Addr).add 0) (.slice t6_p t6_n t6_c) wv ∧ ((decide ((12 : Int) < ((t6_n : Nat) : Int))) = true →
    R (.bool false) wv) ∧
  ((decide ((12 : Int) < ((t6_n : Nat) : Int))) = false →
    ∃ (t10_p : Option Addr) (t10_n : Nat) (t10_c : Nat), Loads P 26 ((⟨r, 0, none⟩ : Addr).add 0) (.slice t10_p t10_n t10_c) wv ∧ ∃ (Inv : Int → World → Prop) (mu : Int → World → Nat), Inv 0 wv ∧
    ∀ (junk : Fr) (wv_1 : World) (t12 : Int), Inv t12 wv_1 →
      ((decide ((t12 : Int) < ((t10_n : Nat) : Int))) = true →
        (0 ≤ (t12 : Int) ∧ (t12 : Int) < (t10_n : Nat)) ∧ ptrS t10_p fun ad => ∃ (t160 : ByteArray) (t161 : ByteArray) (t162 : Bool) (t163_p : Option Addr) (t163_n : Nat) (t163_c : Nat), Loads P 54 (ad.add (t12.toNat * 4)) (.agg #[(.string t160), (.string t161), (.bool t162), (.slice t163_p t163_n t163_c)]) wv_1 ∧ ∀ (r_1 : Nat) (wv_2 : World), New wv_1 (.cells ⟨[(.string ByteArray.empty), (.string ByteArray.empty), (.bool false), (.slice none 0 0)]⟩ 54 (0, 0)) r_1 wv_2 →
        ∃ wv_3, Stores P 54 ⟨r_1, 0, none⟩ (.agg #[(.string t160), (.string t161), (.bool t162), (.slice t163_p t163_n t163_c)]) wv_2 wv_3 ∧
        ∃ (t18 : ByteArray), (∀ wv_4, Ext wv_3.drew wv_4 → Loads P 9 ((⟨r_1, 0, none⟩ : Addr).add 0) (.string t18) wv_4) ∧ Calls P 43 ⟨[(.string t18)]⟩ wv_3.drew fun e wv_5 =>
        ∃ (t19 : Bool), e = .returned (.bool t19) ∧
        ((!t19) = true →
          (true = true →
            (true = true →
              R (.bool false) wv_5) ∧
            (true = false →
              ∃ t43 : Int, t43 = IntKind.wrap .i64 (t12 + 1) ∧ Inv t43 wv_5 ∧ mu t43 wv_5 < mu t12 wv_1)) ∧
          (true = false →
            ((decide ((0 : Int) < t12)) = true →
              ∃ (t32_p : Option Addr) (t32_n : Nat) (t32_c : Nat), (∀ wv_6, Ext wv_5 wv_6 → Loads P 26 ((⟨r, 0, none⟩ : Addr).add 0) (.slice t32_p t32_n t32_c) wv_6) ∧ ∃ t34 : Int, t34 = IntKind.wrap .i64 (t12 - 1) ∧ (0 ≤ (t34 : Int) ∧ (t34 : Int) < (t32_n : Nat)) ∧ ptrS t32_p fun ad_1 => ∃ (t37 : ByteArray), (∀ wv_7, Ext wv_5 wv_7 → Loads P 9 ((ad_1.add (t34.toNat * 4)).add 0) (.string t37) wv_7) ∧ ∃ (t39 : ByteArray), (∀ wv_8, Ext wv_5 wv_8 → Loads P 9 ((⟨r_1, 0, none⟩ : Addr).add 0) (.string t39) wv_8) ∧ ((!(Op.bytesLess t37.toList t39.toList)) = true →
                R (.bool false) wv_5) ∧
              ((!(Op.bytesLess t37.toList t39.toList)) = false →
                ∃ t43_1 : Int, t43_1 = IntKind.wrap .i64 (t12 + 1) ∧ Inv t43_1 wv_5 ∧ mu t43_1 wv_5 < mu t12 wv_1)) ∧
            ((decide ((0 : Int) < t12)) = false →
              (false = true →
                R (.bool false) wv_5) ∧
              (false = false →
                ∃ t43_2 : Int, t43_2 = IntKind.wrap .i64 (t12 + 1) ∧ Inv t43_2 wv_5 ∧ mu t43_2 wv_5 < mu t12 wv_1)))) ∧
        ((!t19) = false →
          ∃ (t230 : ByteArray) (t231 : Bool) (t232_p : Option Addr) (t232_n : Nat) (t232_c : Nat), (∀ wv_9, Ext wv_5 wv_9 → Loads P 44 ((⟨r_1, 0, none⟩ : Addr).add 1) (.agg #[(.string t230), (.bool t231), (.slice t232_p t232_n t232_c)]) wv_9) ∧ Calls P 44 ⟨[(.agg #[(.string t230), (.bool t231), (.slice t232_p t232_n t232_c)])]⟩ wv_5 fun e_1 wv_10 =>
          ∃ (t24 : Bool), e_1 = .returned (.bool t24) ∧
          ((!t24) = true →
            (true = true →
              R (.bool false) wv_10) ∧
            (true = false →
              ∃ t43_3 : Int, t43_3 = IntKind.wrap .i64 (t12 + 1) ∧ Inv t43_3 wv_10 ∧ mu t43_3 wv_10 < mu t12 wv_1)) ∧
          ((!t24) = false →
            ((decide ((0 : Int) < t12)) = true →
              ∃ (t32_p_1 : Option Addr) (t32_n_1 : Nat) (t32_c_1 : Nat), (∀ wv_11, Ext wv_10 wv_11 → Loads P 26 ((⟨r, 0, none⟩ : Addr).add 0) (.slice t32_p_1 t32_n_1 t32_c_1) wv_11) ∧ ∃ t34_1 : Int, t34_1 = IntKind.wrap .i64 (t12 - 1) ∧ (0 ≤ (t34_1 : Int) ∧ (t34_1 : Int) < (t32_n_1 : Nat)) ∧ ptrS t32_p_1 fun ad_2 => ∃ (t37_1 : ByteArray), (∀ wv_12, Ext wv_10 wv_12 → Loads P 9 ((ad_2.add (t34_1.toNat * 4)).add 0) (.string t37_1) wv_12) ∧ ∃ (t39_1 : ByteArray), (∀ wv_13, Ext wv_10 wv_13 → Loads P 9 ((⟨r_1, 0, none⟩ : Addr).add 0) (.string t39_1) wv_13) ∧ ((!(Op.bytesLess t37_1.toList t39_1.toList)) = true →
                R (.bool false) wv_10) ∧
              ((!(Op.bytesLess t37_1.toList t39_1.toList)) = false →
                ∃ t43_4 : Int, t43_4 = IntKind.wrap .i64 (t12 + 1) ∧ Inv t43_4 wv_10 ∧ mu t43_4 wv_10 < mu t12 wv_1)) ∧
            ((decide ((0 : Int) < t12)) = false →
              (false = true →
                R (.bool false) wv_10) ∧
              (false = false →
                ∃ t43_5 : Int, t43_5 = IntKind.wrap .i64 (t12 + 1) ∧ Inv t43_5 wv_10 ∧ mu t43_5 wv_10 < mu t12 wv_1))))) ∧
      ((decide ((t12 : Int) < ((t10_n : Nat) : Int))) = false →
        R (.bool true) wv_1))
theorem impl_BookOk_eq (b0_p : Option Addr) (b0_n : Nat) (b0_c : Nat) (w : World) (R : Value → World → Prop) : impl_BookOk b0_p b0_n b0_c w R = fsem P Tryd.f23 (fun k => cond (Nat.beq k 5) [(12, .one (.int .i64))] ([])) [(.agg #[(.slice b0_p b0_n b0_c)])] R w := by kernel_rfl
theorem impl_BookOk_ret {b0_p : Option Addr} {b0_n : Nat} {b0_c : Nat} {w : World} {R : Value → World → Prop} (h : impl_BookOk b0_p b0_n b0_c w R) : Ret P 23 [(.agg #[(.slice b0_p b0_n b0_c)])] w R :=
  Ret.of_fsem Tryd.func23 rfl (Eq.mp (impl_BookOk_eq b0_p b0_n b0_c w R) h)
def impl_AcctAt (b0_p : Option Addr) (b0_n : Nat) (b0_c : Nat) (name : ByteArray) (w : World) (R : Value → World → Prop) : Prop :=
  ∀ (r : Nat) (wv : World), New w (.cells ⟨[(.slice b0_p b0_n b0_c)]⟩ 28 (0, 0)) r wv →
  ∀ (r_1 : Nat) (wv_1 : World), New wv (.cells ⟨[(.string name)]⟩ 9 (0, 0)) r_1 wv_1 →
  ∃ (t6_p : Option Addr) (t6_n : Nat) (t6_c : Nat), Loads P 26 ((⟨r, 0, none⟩ : Addr).add 0) (.slice t6_p t6_n t6_c) wv_1 ∧ Calls P 45 ⟨[(.slice t6_p t6_n t6_c), (.func (.func 46) #[] #[(.pointer (some ⟨r_1, 0, none⟩))])]⟩ wv_1 fun e wv_2 =>
  ∃ (t8 : Int), e = .returned (.int .i64 t8) ∧
  R (.int .i64 t8) wv_2
theorem impl_AcctAt_eq (b0_p : Option Addr) (b0_n : Nat) (b0_c : Nat) (name : ByteArray) (w : World) (R : Value → World → Prop) : impl_AcctAt b0_p b0_n b0_c name w R = fsem P Tryd.f24 (fun k => []) [(.agg #[(.slice b0_p b0_n b0_c)]), (.string name)] R w := by kernel_rfl
theorem impl_AcctAt_ret {b0_p : Option Addr} {b0_n : Nat} {b0_c : Nat} {name : ByteArray} {w : World} {R : Value → World → Prop} (h : impl_AcctAt b0_p b0_n b0_c name w R) : Ret P 24 [(.agg #[(.slice b0_p b0_n b0_c)]), (.string name)] w R :=
  Ret.of_fsem Tryd.func24 rfl (Eq.mp (impl_AcctAt_eq b0_p b0_n b0_c name w R) h)
def impl_changed (b0_p : Option Addr) (b0_n : Nat) (b0_c : Nat) (dov : Value) (w : World) (R : Value → World → Prop) : Prop :=
  ∀ (r : Nat) (wv : World), New w (.cells ⟨[(.slice b0_p b0_n b0_c)]⟩ 28 (0, 0)) r wv →
  ∀ (r_1 : Nat) (wv_1 : World), New wv (.cells ⟨[(.slice none 0 0)]⟩ 28 (0, 0)) r_1 wv_1 →
  ∃ (t70_p : Option Addr) (t70_n : Nat) (t70_c : Nat), Loads P 28 ⟨r, 0, none⟩ (.agg #[(.slice t70_p t70_n t70_c)]) wv_1 ∧ Calls P 47 ⟨[(.agg #[(.slice t70_p t70_n t70_c)])]⟩ wv_1 fun e wv_2 =>
  ∃ (t80_p : Option Addr) (t80_n : Nat) (t80_c : Nat), e = .returned (.agg #[(.slice t80_p t80_n t80_c)]) ∧
  ∀ (r_2 : Nat) (wv_3 : World), New wv_2 (.cells ⟨[(.int .i32 0), (.int .u32 0), (.slice none 0 0)]⟩ 85 (0, 0)) r_2 wv_3 →
  ∃ wv_4, Stores P 85 ⟨r_2, 0, none⟩ (.agg #[(.int .i32 0), (.int .u32 0), (.slice t80_p t80_n t80_c)]) wv_3 wv_4 ∧
  Calls P 48 ⟨[(.pointer (some ⟨r_2, 0, none⟩)), dov]⟩ wv_4 fun e_1 wv_5 =>
  ∃ (t11 : Bool), e_1 = .returned (.bool t11) ∧
  ((!t11) = true →
    ∃ wv_6, Stores P 28 ⟨r_1, 0, none⟩ (.agg #[(.slice none 0 0)]) wv_5 wv_6 ∧
    ∃ (r0_p : Option Addr) (r0_n : Nat) (r0_c : Nat), Loads P 28 ⟨r_1, 0, none⟩ (.agg #[(.slice r0_p r0_n r0_c)]) wv_6 ∧ R (.tuple #[(.agg #[(.slice r0_p r0_n r0_c)]), (.bool false)]) wv_6) ∧
  ((!t11) = false →
    ∃ (t150_p : Option Addr) (t150_n : Nat) (t150_c : Nat), Loads P 28 ((⟨r_2, 0, none⟩ : Addr).add 2) (.agg #[(.slice t150_p t150_n t150_c)]) wv_5 ∧ ∃ wv_7, Stores P 28 ⟨r_1, 0, none⟩ (.agg #[(.slice t150_p t150_n t150_c)]) wv_5 wv_7 ∧
    ∃ (r0_p_1 : Option Addr) (r0_n_1 : Nat) (r0_c_1 : Nat), Loads P 28 ⟨r_1, 0, none⟩ (.agg #[(.slice r0_p_1 r0_n_1 r0_c_1)]) wv_7 ∧ R (.tuple #[(.agg #[(.slice r0_p_1 r0_n_1 r0_c_1)]), (.bool true)]) wv_7)
theorem impl_changed_eq (b0_p : Option Addr) (b0_n : Nat) (b0_c : Nat) (dov : Value) (w : World) (R : Value → World → Prop) : impl_changed b0_p b0_n b0_c dov w R = fsem P Tryd.f25 (fun k => []) [(.agg #[(.slice b0_p b0_n b0_c)]), dov] R w := by kernel_rfl
theorem impl_changed_ret {b0_p : Option Addr} {b0_n : Nat} {b0_c : Nat} {dov : Value} {w : World} {R : Value → World → Prop} (h : impl_changed b0_p b0_n b0_c dov w R) : Ret P 25 [(.agg #[(.slice b0_p b0_n b0_c)]), dov] w R :=
  Ret.of_fsem Tryd.func25 rfl (Eq.mp (impl_changed_eq b0_p b0_n b0_c dov w R) h)
def impl_BookOpen_1 (b : Option Addr) (cap0 : Option Addr) (cap1 : Option Addr) (w : World) (R : Value → World → Prop) : Prop :=
  ∃ (Inv : Int → World → Prop) (mu : Int → World → Nat), Inv 0 w ∧
  ∀ (junk : Fr) (wv : World) (atv : Int), Inv atv wv →
    ptrS b fun ad => ∃ (t10_p : Option Addr) (t10_n : Nat) (t10_c : Nat), (∀ wv_1, Ext wv.drew wv_1 → Loads P 26 (ad.add 0) (.slice t10_p t10_n t10_c) wv_1) ∧ ((decide ((atv : Int) < ((t10_n : Nat) : Int))) = true →
      ptrS b fun ad_1 => ∃ (t17_p : Option Addr) (t17_n : Nat) (t17_c : Nat), (∀ wv_2, Ext wv.drew wv_2 → Loads P 26 (ad_1.add 0) (.slice t17_p t17_n t17_c) wv_2) ∧ (0 ≤ (atv : Int) ∧ (atv : Int) < (t17_n : Nat)) ∧ ptrS t17_p fun ad_2 => ∃ (t21 : ByteArray), (∀ wv_3, Ext wv.drew wv_3 → Loads P 9 ((ad_2.add (atv.toNat * 4)).add 0) (.string t21) wv_3) ∧ ptrS cap0 fun ad_3 => ∃ (t22 : ByteArray), (∀ wv_4, Ext wv.drew wv_4 → Loads P 9 ad_3 (.string t22) wv_4) ∧ ((Op.bytesLess t21.toList t22.toList) = true →
        ∃ t26 : Int, t26 = IntKind.wrap .i64 (atv + 1) ∧ Inv t26 wv.drew ∧ mu t26 wv.drew < mu atv wv) ∧
      ((Op.bytesLess t21.toList t22.toList) = false →
        ptrS b fun ad_4 => ∃ (t31_p : Option Addr) (t31_n : Nat) (t31_c : Nat), (∀ wv_5, Ext wv.drew.drew wv_5 → Loads P 26 (ad_4.add 0) (.slice t31_p t31_n t31_c) wv_5) ∧ ptrS cap0 fun ad_5 => ∃ (t33 : ByteArray), (∀ wv_6, Ext wv.drew.drew wv_6 → Loads P 9 ad_5 (.string t33) wv_6) ∧ ptrS cap1 fun ad_6 => ∃ (t34 : ByteArray), (∀ wv_7, Ext wv.drew.drew wv_7 → Loads P 9 ad_6 (.string t34) wv_7) ∧ ∀ (r : Nat) (wv_8 : World), New wv.drew.drew (.cells ⟨[(.string t33), (.string t34), (.bool false), (.slice none 0 0)]⟩ 54 (0, 0)) r wv_8 →
        Ext wv.drew.drew wv_8 ∧ Calls P 27 ⟨[(.slice t31_p t31_n t31_c), (.int .i64 atv), (.slice (some ⟨r, 0, none⟩) 1 1)]⟩ wv_8 fun e wv_9 =>
        ∃ (t38_p : Option Addr) (t38_n : Nat) (t38_c : Nat), e = .returned (.slice t38_p t38_n t38_c) ∧
        ptrS b fun ad_7 => ∃ wv_10, Stores P 26 (ad_7.add 0) (.slice t38_p t38_n t38_c) wv_9 wv_10 ∧
        ptrS b fun ad_8 => ∃ (t430_p : Option Addr) (t430_n : Nat) (t430_c : Nat), Loads P 28 ad_8 (.agg #[(.slice t430_p t430_n t430_c)]) wv_10 ∧ Calls P 23 ⟨[(.agg #[(.slice t430_p t430_n t430_c)])]⟩ wv_10 fun e_1 wv_11 =>
        ∃ (t44 : Bool), e_1 = .returned (.bool t44) ∧
        R (.bool t44) wv_11)) ∧
    ((decide ((atv : Int) < ((t10_n : Nat) : Int))) = false →
      (false = true →
        ∃ t26_1 : Int, t26_1 = IntKind.wrap .i64 (atv + 1) ∧ Inv t26_1 wv.drew ∧ mu t26_1 wv.drew < mu atv wv) ∧
      (false = false →
        ptrS b fun ad_9 => ∃ (t31_p_1 : Option Addr) (t31_n_1 : Nat) (t31_c_1 : Nat), (∀ wv_12, Ext wv.drew.drew wv_12 → Loads P 26 (ad_9.add 0) (.slice t31_p_1 t31_n_1 t31_c_1) wv_12) ∧ ptrS cap0 fun ad_10 => ∃ (t33_1 : ByteArray), (∀ wv_13, Ext wv.drew.drew wv_13 → Loads P 9 ad_10 (.string t33_1) wv_13) ∧ ptrS cap1 fun ad_11 => ∃ (t34_1 : ByteArray), (∀ wv_14, Ext wv.drew.drew wv_14 → Loads P 9 ad_11 (.string t34_1) wv_14) ∧ ∀ (r_1 : Nat) (wv_15 : World), New wv.drew.drew (.cells ⟨[(.string t33_1), (.string t34_1), (.bool false), (.slice none 0 0)]⟩ 54 (0, 0)) r_1 wv_15 →
        Ext wv.drew.drew wv_15 ∧ Calls P 27 ⟨[(.slice t31_p_1 t31_n_1 t31_c_1), (.int .i64 atv), (.slice (some ⟨r_1, 0, none⟩) 1 1)]⟩ wv_15 fun e_2 wv_16 =>
        ∃ (t38_p_1 : Option Addr) (t38_n_1 : Nat) (t38_c_1 : Nat), e_2 = .returned (.slice t38_p_1 t38_n_1 t38_c_1) ∧
        ptrS b fun ad_12 => ∃ wv_17, Stores P 26 (ad_12.add 0) (.slice t38_p_1 t38_n_1 t38_c_1) wv_16 wv_17 ∧
        ptrS b fun ad_13 => ∃ (t430_p_1 : Option Addr) (t430_n_1 : Nat) (t430_c_1 : Nat), Loads P 28 ad_13 (.agg #[(.slice t430_p_1 t430_n_1 t430_c_1)]) wv_17 ∧ Calls P 23 ⟨[(.agg #[(.slice t430_p_1 t430_n_1 t430_c_1)])]⟩ wv_17 fun e_3 wv_18 =>
        ∃ (t44_1 : Bool), e_3 = .returned (.bool t44_1) ∧
        R (.bool t44_1) wv_18))
theorem impl_BookOpen_1_eq (b : Option Addr) (cap0 : Option Addr) (cap1 : Option Addr) (w : World) (R : Value → World → Prop) : impl_BookOpen_1 b cap0 cap1 w R = fsem P Tryd.f26 (fun k => cond (Nat.beq k 3) [(5, .one (.int .i64))] ([])) [(.pointer b), (.pointer cap0), (.pointer cap1)] R w := by kernel_rfl
theorem impl_BookOpen_1_ret {b : Option Addr} {cap0 : Option Addr} {cap1 : Option Addr} {w : World} {R : Value → World → Prop} (h : impl_BookOpen_1 b cap0 cap1 w R) : Ret P 26 [(.pointer b), (.pointer cap0), (.pointer cap1)] w R :=
  Ret.of_fsem Tryd.func26 rfl (Eq.mp (impl_BookOpen_1_eq b cap0 cap1 w R) h)
def slices_Insert_impl_Acct_impl_Acct (s_p : Option Addr) (s_n : Nat) (s_c : Nat) (i : Int) (v_p : Option Addr) (v_n : Nat) (v_c : Nat) (w : World) (R : Value → World → Prop) : Prop :=
  (0 ≤ (i : Int) ∧ (i : Int) ≤ (s_n : Nat)) ∧ ((decide ((((v_n : Nat) : Int) : Int) = 0)) = true →
    R (.slice s_p s_n s_c) w) ∧
  ((decide ((((v_n : Nat) : Int) : Int) = 0)) = false →
    ((decide ((i : Int) = ((s_n : Nat) : Int))) = true →
      ∃ (t25_p : Option Addr) (t25_n : Nat) (t25_c : Nat) (wv : World), Appends P [26, 26] [(.slice s_p s_n s_c), (.slice v_p v_n v_c)] (.slice t25_p t25_n t25_c) w wv ∧
      R (.slice t25_p t25_n t25_c) wv) ∧
    ((decide ((i : Int) = ((s_n : Nat) : Int))) = false →
      ∃ t28 : Int, t28 = IntKind.wrap .i64 (((s_n : Nat) : Int) + ((v_n : Nat) : Int)) ∧ ((decide ((((s_c : Nat) : Int) : Int) < t28)) = true →
        (0 ≤ (i : Int) ∧ (i : Int) ≤ (s_c : Nat)) ∧ ∃ t37 : Int, t37 = IntKind.wrap .i64 (((s_n : Nat) : Int) + ((v_n : Nat) : Int)) ∧ ∃ t39 : Int, t39 = IntKind.wrap .i64 (t37 - i) ∧ ∃ (t40_p : Option Addr) (t40_n : Nat) (t40_c : Nat) (wv_1 : World), Appends P [26, 3] [(.slice (sub s_p 0 s_c 4) (i.toNat - 0) (s_c - 0)), (.int .i64 t39)] (.slice t40_p t40_n t40_c) w wv_1 ∧
        (0 ≤ (i : Int) ∧ (i : Int) ≤ (t40_n : Nat)) ∧ ∃ (t45 : Int) (wv_2 : World), Copies P [26, 26] [(.slice (sub t40_p i.toNat t40_c 4) (t40_n - i.toNat) (t40_c - i.toNat)), (.slice v_p v_n v_c)] (.int .i64 t45) wv_1 wv_2 ∧
        ∃ t49 : Int, t49 = IntKind.wrap .i64 (i + ((v_n : Nat) : Int)) ∧ (0 ≤ (t49 : Int) ∧ (t49 : Int) ≤ (t40_n : Nat)) ∧ (0 ≤ (i : Int) ∧ (i : Int) ≤ (s_n : Nat)) ∧ ∃ (t54 : Int) (wv_3 : World), Copies P [26, 26] [(.slice (sub t40_p t49.toNat t40_c 4) (t40_n - t49.toNat) (t40_c - t49.toNat)), (.slice (sub s_p i.toNat s_c 4) (s_n - i.toNat) (s_c - i.toNat))] (.int .i64 t54) wv_2.drew wv_3 ∧
        R (.slice t40_p t40_n t40_c) wv_3) ∧
      ((decide ((((s_c : Nat) : Int) : Int) < t28)) = false →
        ∃ t59 : Int, t59 = IntKind.wrap .i64 (((s_n : Nat) : Int) + ((v_n : Nat) : Int)) ∧ (0 ≤ (t59 : Int) ∧ (t59 : Int) ≤ (s_c : Nat)) ∧ ∃ t65 : Int, t65 = IntKind.wrap .i64 (i + ((v_n : Nat) : Int)) ∧ (0 ≤ (t65 : Int) ∧ (t65 : Int) ≤ ((t59.toNat - 0) : Nat)) ∧ ∃ (t67 : Bool) (wv_4 : World), Externs P 49 [(.slice v_p v_n v_c), (.slice (sub (sub s_p 0 s_c 4) t65.toNat (s_c - 0) 4) ((t59.toNat - 0) - t65.toNat) ((s_c - 0) - t65.toNat))] (.bool t67) w wv_4 ∧
        ((!t67) = true →
          ∃ t72_1 : Int, t72_1 = IntKind.wrap .i64 (i + ((v_n : Nat) : Int)) ∧ (0 ≤ (t72_1 : Int) ∧ (t72_1 : Int) ≤ ((t59.toNat - 0) : Nat)) ∧ (0 ≤ (i : Int) ∧ (i : Int) ≤ ((t59.toNat - 0) : Nat)) ∧ ∃ (t77_1 : Int) (wv_9 : World), Copies P [26, 26] [(.slice (sub (sub s_p 0 s_c 4) t72_1.toNat (s_c - 0) 4) ((t59.toNat - 0) - t72_1.toNat) ((s_c - 0) - t72_1.toNat)), (.slice (sub (sub s_p 0 s_c 4) i.toNat (s_c - 0) 4) ((t59.toNat - 0) - i.toNat) ((s_c - 0) - i.toNat))] (.int .i64 t77_1) wv_4.drew wv_9 ∧
          (0 ≤ (i : Int) ∧ (i : Int) ≤ ((t59.toNat - 0) : Nat)) ∧ ∃ (t82_1 : Int) (wv_10 : World), Copies P [26, 26] [(.slice (sub (sub s_p 0 s_c 4) i.toNat (s_c - 0) 4) ((t59.toNat - 0) - i.toNat) ((s_c - 0) - i.toNat)), (.slice v_p v_n v_c)] (.int .i64 t82_1) wv_9 wv_10 ∧
          R (.slice (sub s_p 0 s_c 4) (t59.toNat - 0) (s_c - 0)) wv_10) ∧
        ((!t67) = false →
          (0 ≤ (((s_n : Nat) : Int) : Int) ∧ (((s_n : Nat) : Int) : Int) ≤ ((t59.toNat - 0) : Nat)) ∧ ∃ (t88_1 : Int) (wv_11 : World), Copies P [26, 26] [(.slice (sub (sub s_p 0 s_c 4) s_n (s_c - 0) 4) ((t59.toNat - 0) - s_n) ((s_c - 0) - s_n)), (.slice v_p v_n v_c)] (.int .i64 t88_1) wv_4 wv_11 ∧
          (0 ≤ (i : Int) ∧ (i : Int) ≤ ((t59.toNat - 0) : Nat)) ∧ Calls P 50 ⟨[(.slice (sub (sub s_p 0 s_c 4) i.toNat (s_c - 0) 4) ((t59.toNat - 0) - i.toNat) ((s_c - 0) - i.toNat)), (.int .i64 ((v_n : Nat) : Int))]⟩ wv_11 fun e_2 wv_12 =>
          e_2 = .returned (.tuple #[]) ∧
          R (.slice (sub s_p 0 s_c 4) (t59.toNat - 0) (s_c - 0)) wv_12))))
theorem slices_Insert_impl_Acct_impl_Acct_eq (s_p : Option Addr) (s_n : Nat) (s_c : Nat) (i : Int) (v_p : Option Addr) (v_n : Nat) (v_c : Nat) (w : World) (R : Value → World → Prop) : slices_Insert_impl_Acct_impl_Acct s_p s_n s_c i v_p v_n v_c w R = fsem P Tryd.f27 (fun k => []) [(.slice s_p s_n s_c), (.int .i64 i), (.slice v_p v_n v_c)] R w := by kernel_rfl
theorem slices_Insert_impl_Acct_impl_Acct_ret {s_p : Option Addr} {s_n : Nat} {s_c : Nat} {i : Int} {v_p : Option Addr} {v_n : Nat} {v_c : Nat} {w : World} {R : Value → World → Prop} (h : slices_Insert_impl_Acct_impl_Acct s_p s_n s_c i v_p v_n v_c w R) : Ret P 27 [(.slice s_p s_n s_c), (.int .i64 i), (.slice v_p v_n v_c)] w R :=
  Ret.of_fsem Tryd.func27 rfl (Eq.mp (slices_Insert_impl_Acct_impl_Acct_eq s_p s_n s_c i v_p v_n v_c w R) h)
def spec_IsWord (s : ByteArray) (w : World) (R : Value → World → Prop) : Prop :=
  Calls P 64 ⟨[(.string s), (.int .u8 97), (.int .u8 122), (.int .u8 48), (.int .u8 57)]⟩ w fun e wv =>
  ∃ (t4 : Bool), e = .returned (.bool t4) ∧
  (t4 = true →
    ((decide ((((s.size : Nat) : Int) : Int) ≤ 12)) = true →
      0 ≤ (0 : Int) ∧ ∃ b : UInt8, s[0]? = some b ∧ R (.bool (decide ((97 : Int) ≤ ((b.toNat : Nat) : Int)))) wv) ∧
    ((decide ((((s.size : Nat) : Int) : Int) ≤ 12)) = false →
      R (.bool false) wv)) ∧
  (t4 = false →
    (false = true →
      0 ≤ (0 : Int) ∧ ∃ b_1 : UInt8, s[0]? = some b_1 ∧ R (.bool (decide ((97 : Int) ≤ ((b_1.toNat : Nat) : Int)))) wv) ∧
    (false = false →
      R (.bool false) wv))
theorem spec_IsWord_eq (s : ByteArray) (w : World) (R : Value → World → Prop) : spec_IsWord s w R = fsem P Tryd.f39 (fun k => []) [(.string s)] R w := by kernel_rfl
theorem spec_IsWord_ret {s : ByteArray} {w : World} {R : Value → World → Prop} (h : spec_IsWord s w R) : Ret P 39 [(.string s)] w R :=
  Ret.of_fsem Tryd.func39 rfl (Eq.mp (spec_IsWord_eq s w R) h)
def spec_MoneyOk (m0 : ByteArray) (m1 : Bool) (m2_p : Option Addr) (m2_n : Nat) (m2_c : Nat) (w : World) (R : Value → World → Prop) : Prop :=
  ∀ (r : Nat) (wv : World), New w (.cells ⟨[(.string m0), (.bool m1), (.slice m2_p m2_n m2_c)]⟩ 44 (0, 0)) r wv →
  ∃ (t4 : ByteArray), Loads P 9 ((⟨r, 0, none⟩ : Addr).add 0) (.string t4) wv ∧ Calls P 65 ⟨[(.string t4)]⟩ wv fun e wv_1 =>
  ∃ (t5 : Bool), e = .returned (.bool t5) ∧
  (t5 = true →
    ∃ (t80 : Bool) (t81_p : Option Addr) (t81_n : Nat) (t81_c : Nat), Loads P 42 ((⟨r, 0, none⟩ : Addr).add 1) (.agg #[(.bool t80), (.slice t81_p t81_n t81_c)]) wv_1 ∧ Calls P 66 ⟨[(.agg #[(.bool t80), (.slice t81_p t81_n t81_c)])]⟩ wv_1 fun e_1 wv_2 =>
    ∃ (t9 : Bool), e_1 = .returned (.bool t9) ∧
    (t9 = true →
      ∃ (t14_p : Option Addr) (t14_n : Nat) (t14_c : Nat), Loads P 35 (((⟨r, 0, none⟩ : Addr).add 1).add 1) (.slice t14_p t14_n t14_c) wv_2 ∧ R (.bool (decide ((((t14_n : Nat) : Int) : Int) ≤ 4))) wv_2) ∧
    (t9 = false →
      R (.bool false) wv_2)) ∧
  (t5 = false →
    (false = true →
      ∃ (t14_p_1 : Option Addr) (t14_n_1 : Nat) (t14_c_1 : Nat), Loads P 35 (((⟨r, 0, none⟩ : Addr).add 1).add 1) (.slice t14_p_1 t14_n_1 t14_c_1) wv_1 ∧ R (.bool (decide ((((t14_n_1 : Nat) : Int) : Int) ≤ 4))) wv_1) ∧
    (false = false →
      R (.bool false) wv_1))
theorem spec_MoneyOk_eq (m0 : ByteArray) (m1 : Bool) (m2_p : Option Addr) (m2_n : Nat) (m2_c : Nat) (w : World) (R : Value → World → Prop) : spec_MoneyOk m0 m1 m2_p m2_n m2_c w R = fsem P Tryd.f40 (fun k => []) [(.agg #[(.string m0), (.bool m1), (.slice m2_p m2_n m2_c)])] R w := by kernel_rfl
theorem spec_MoneyOk_ret {m0 : ByteArray} {m1 : Bool} {m2_p : Option Addr} {m2_n : Nat} {m2_c : Nat} {w : World} {R : Value → World → Prop} (h : spec_MoneyOk m0 m1 m2_p m2_n m2_c w R) : Ret P 40 [(.agg #[(.string m0), (.bool m1), (.slice m2_p m2_n m2_c)])] w R :=
  Ret.of_fsem Tryd.func40 rfl (Eq.mp (spec_MoneyOk_eq m0 m1 m2_p m2_n m2_c w R) h)
def spec_l17Money (m0 : ByteArray) (m1 : Bool) (m2_p : Option Addr) (m2_n : Nat) (m2_c : Nat) (w : World) (R : Value → World → Prop) : Prop :=
  ∀ (r : Nat) (wv : World), New w (.cells ⟨[(.string m0), (.bool m1), (.slice m2_p m2_n m2_c)]⟩ 44 (0, 0)) r wv →
  ∀ (r_1 : Nat) (wv_1 : World), New wv (.cells ⟨[(.string ByteArray.empty), (.bool false), (.slice none 0 0)]⟩ 44 (0, 0)) r_1 wv_1 →
  ∃ (t4 : ByteArray), (∀ wv_2, Ext wv_1.drew wv_2 → Loads P 9 ((⟨r, 0, none⟩ : Addr).add 0) (.string t4) wv_2) ∧ ∃ (t7 : Bool), (∀ wv_3, Ext wv_1.drew wv_3 → Loads P 4 (((⟨r, 0, none⟩ : Addr).add 1).add 0) (.bool t7) wv_3) ∧ ∀ (r_2 : Nat) (wv_4 : World), New wv_1.drew (.cells ⟨[]⟩ 3 (0, 0)) r_2 wv_4 →
  Ext wv_1.drew wv_4 ∧ ∃ (t11_p : Option Addr) (t11_n : Nat) (t11_c : Nat), (∀ wv_5, Ext wv_1.drew wv_5 → Loads P 35 (((⟨r, 0, none⟩ : Addr).add 1).add 1) (.slice t11_p t11_n t11_c) wv_5) ∧ ∃ (t12_p : Option Addr) (t12_n : Nat) (t12_c : Nat) (wv_6 : World), Appends P [35, 35] [(.slice (some ⟨r_2, 0, none⟩) 0 0), (.slice t11_p t11_n t11_c)] (.slice t12_p t12_n t12_c) wv_4 wv_6 ∧
  Ext wv_4 wv_6 ∧ ∃ wv_7, Stores P 44 ⟨r_1, 0, none⟩ (.agg #[(.string t4), (.bool t7), (.slice t12_p t12_n t12_c)]) wv_6 wv_7 ∧
  ∃ (r0 : ByteArray) (r1 : Bool) (r2_p : Option Addr) (r2_n : Nat) (r2_c : Nat), Loads P 44 ⟨r_1, 0, none⟩ (.agg #[(.string r0), (.bool r1), (.slice r2_p r2_n r2_c)]) wv_7 ∧ R (.agg #[(.string r0), (.bool r1), (.slice r2_p r2_n r2_c)]) wv_7
theorem spec_l17Money_eq (m0 : ByteArray) (m1 : Bool) (m2_p : Option Addr) (m2_n : Nat) (m2_c : Nat) (w : World) (R : Value → World → Prop) : spec_l17Money m0 m1 m2_p m2_n m2_c w R = fsem P Tryd.f41 (fun k => []) [(.agg #[(.string m0), (.bool m1), (.slice m2_p m2_n m2_c)])] R w := by kernel_rfl
theorem spec_l17Money_ret {m0 : ByteArray} {m1 : Bool} {m2_p : Option Addr} {m2_n : Nat} {m2_c : Nat} {w : World} {R : Value → World → Prop} (h : spec_l17Money m0 m1 m2_p m2_n m2_c w R) : Ret P 41 [(.agg #[(.string m0), (.bool m1), (.slice m2_p m2_n m2_c)])] w R :=
  Ret.of_fsem Tryd.func41 rfl (Eq.mp (spec_l17Money_eq m0 m1 m2_p m2_n m2_c w R) h)
def impl_IsWord_j0 (s : ByteArray) (W : World) (R : Value → World → Prop) : Prop :=
  ∃ (Inv : Int → World → Prop) (mu : Int → World → Nat), Inv 1 W ∧
  ∀ (junk : Fr) (wv : World) (i : Int), Inv i wv →
    ((decide ((i : Int) < ((s.size : Nat) : Int))) = true →
      0 ≤ (i : Int) ∧ ∃ b : UInt8, s[i.toNat]? = some b ∧ Calls P 67 ⟨[(.int .u8 ((b.toNat : Nat) : Int))]⟩ wv fun e wv_1 =>
      ∃ (t27 : Bool), e = .returned (.bool t27) ∧
      ((!t27) = true →
        0 ≤ (i : Int) ∧ ∃ b_1 : UInt8, s[i.toNat]? = some b_1 ∧ Calls P 68 ⟨[(.int .u8 ((b_1.toNat : Nat) : Int))]⟩ wv_1 fun e_1 wv_2 =>
        ∃ (t33 : Bool), e_1 = .returned (.bool t33) ∧
        ((!t33) = true →
          R (.bool false) wv_2) ∧
        ((!t33) = false →
          ∃ t23 : Int, t23 = IntKind.wrap .i64 (i + 1) ∧ Inv t23 wv_2 ∧ mu t23 wv_2 < mu i wv)) ∧
      ((!t27) = false →
        (false = true →
          R (.bool false) wv_1) ∧
        (false = false →
          ∃ t23_1 : Int, t23_1 = IntKind.wrap .i64 (i + 1) ∧ Inv t23_1 wv_1 ∧ mu t23_1 wv_1 < mu i wv))) ∧
    ((decide ((i : Int) < ((s.size : Nat) : Int))) = false →
      R (.bool true) wv)
def impl_IsWord (s : ByteArray) (w : World) (R : Value → World → Prop) : Prop :=
  ((decide ((((s.size : Nat) : Int) : Int) < 1)) = true →
    (true = true →
      (true = true →
        R (.bool false) w) ∧
      (true = false →
        impl_IsWord_j0 s w R)) ∧
    (true = false →
      0 ≤ (0 : Int) ∧ ∃ b_2 : UInt8, s[0]? = some b_2 ∧ Calls P 67 ⟨[(.int .u8 ((b_2.toNat : Nat) : Int))]⟩ w fun e_2 wv_3 =>
      ∃ (t15 : Bool), e_2 = .returned (.bool t15) ∧
      ((!t15) = true →
        R (.bool false) wv_3) ∧
      ((!t15) = false →
        impl_IsWord_j0 s wv_3 R))) ∧
  ((decide ((((s.size : Nat) : Int) : Int) < 1)) = false →
    ((decide ((12 : Int) < ((s.size : Nat) : Int))) = true →
      (true = true →
        R (.bool false) w) ∧
      (true = false →
        impl_IsWord_j0 s w R)) ∧
    ((decide ((12 : Int) < ((s.size : Nat) : Int))) = false →
      0 ≤ (0 : Int) ∧ ∃ b_3 : UInt8, s[0]? = some b_3 ∧ Calls P 67 ⟨[(.int .u8 ((b_3.toNat : Nat) : Int))]⟩ w fun e_3 wv_4 =>
      ∃ (t15_1 : Bool), e_3 = .returned (.bool t15_1) ∧
      ((!t15_1) = true →
        R (.bool false) wv_4) ∧
      ((!t15_1) = false →
        impl_IsWord_j0 s wv_4 R)))
theorem impl_IsWord_eq (s : ByteArray) (w : World) (R : Value → World → Prop) : impl_IsWord s w R = fsem P Tryd.f43 (fun k => cond (Nat.beq k 5) [(3, .one (.int .i64))] ([])) [(.string s)] R w := by kernel_rfl
theorem impl_IsWord_ret {s : ByteArray} {w : World} {R : Value → World → Prop} (h : impl_IsWord s w R) : Ret P 43 [(.string s)] w R :=
  Ret.of_fsem Tryd.func43 rfl (Eq.mp (impl_IsWord_eq s w R) h)
def impl_MoneyOk (m0 : ByteArray) (m1 : Bool) (m2_p : Option Addr) (m2_n : Nat) (m2_c : Nat) (w : World) (R : Value → World → Prop) : Prop :=
  ∀ (r : Nat) (wv : World), New w (.cells ⟨[(.string m0), (.bool m1), (.slice m2_p m2_n m2_c)]⟩ 44 (0, 0)) r wv →
  ∃ (t4 : ByteArray), Loads P 9 ((⟨r, 0, none⟩ : Addr).add 0) (.string t4) wv ∧ Calls P 69 ⟨[(.string t4)]⟩ wv fun e wv_1 =>
  ∃ (t5 : Bool), e = .returned (.bool t5) ∧
  (t5 = true →
    ∃ (t80 : Bool) (t81_p : Option Addr) (t81_n : Nat) (t81_c : Nat), Loads P 42 ((⟨r, 0, none⟩ : Addr).add 1) (.agg #[(.bool t80), (.slice t81_p t81_n t81_c)]) wv_1 ∧ Calls P 70 ⟨[(.agg #[(.bool t80), (.slice t81_p t81_n t81_c)])]⟩ wv_1 fun e_1 wv_2 =>
    ∃ (t9 : Bool), e_1 = .returned (.bool t9) ∧
    (t9 = true →
      ∃ (t14_p : Option Addr) (t14_n : Nat) (t14_c : Nat), Loads P 35 (((⟨r, 0, none⟩ : Addr).add 1).add 1) (.slice t14_p t14_n t14_c) wv_2 ∧ R (.bool (decide ((((t14_n : Nat) : Int) : Int) ≤ 4))) wv_2) ∧
    (t9 = false →
      R (.bool false) wv_2)) ∧
  (t5 = false →
    (false = true →
      ∃ (t14_p_1 : Option Addr) (t14_n_1 : Nat) (t14_c_1 : Nat), Loads P 35 (((⟨r, 0, none⟩ : Addr).add 1).add 1) (.slice t14_p_1 t14_n_1 t14_c_1) wv_1 ∧ R (.bool (decide ((((t14_n_1 : Nat) : Int) : Int) ≤ 4))) wv_1) ∧
    (false = false →
      R (.bool false) wv_1))
theorem impl_MoneyOk_eq (m0 : ByteArray) (m1 : Bool) (m2_p : Option Addr) (m2_n : Nat) (m2_c : Nat) (w : World) (R : Value → World → Prop) : impl_MoneyOk m0 m1 m2_p m2_n m2_c w R = fsem P Tryd.f44 (fun k => []) [(.agg #[(.string m0), (.bool m1), (.slice m2_p m2_n m2_c)])] R w := by kernel_rfl
theorem impl_MoneyOk_ret {m0 : ByteArray} {m1 : Bool} {m2_p : Option Addr} {m2_n : Nat} {m2_c : Nat} {w : World} {R : Value → World → Prop} (h : impl_MoneyOk m0 m1 m2_p m2_n m2_c w R) : Ret P 44 [(.agg #[(.string m0), (.bool m1), (.slice m2_p m2_n m2_c)])] w R :=
  Ret.of_fsem Tryd.func44 rfl (Eq.mp (impl_MoneyOk_eq m0 m1 m2_p m2_n m2_c w R) h)
def slices_IndexFunc_impl_Acct_impl_Acct (s_p : Option Addr) (s_n : Nat) (s_c : Nat) (f : Value) (w : World) (R : Value → World → Prop) : Prop :=
  ∃ (Inv : Int → World → Prop) (mu : Int → World → Nat), Inv 0 w ∧
  ∀ (junk : Fr) (wv : World) (t8 : Int), Inv t8 wv →
    ((decide ((t8 : Int) < ((s_n : Nat) : Int))) = true →
      (0 ≤ (t8 : Int) ∧ (t8 : Int) < (s_n : Nat)) ∧ ptrS s_p fun ad => ∃ (t150 : ByteArray) (t151 : ByteArray) (t152 : Bool) (t153_p : Option Addr) (t153_n : Nat) (t153_c : Nat), Loads P 54 (ad.add (t8.toNat * 4)) (.agg #[(.string t150), (.string t151), (.bool t152), (.slice t153_p t153_n t153_c)]) wv ∧ CallW P f [(.agg #[(.string t150), (.string t151), (.bool t152), (.slice t153_p t153_n t153_c)])] wv fun e wv_1 =>
      ∃ (t16 : Bool), e = .returned (.bool t16) ∧
      (t16 = true →
        R (.int .i64 t8) wv_1) ∧
      (t16 = false →
        ∃ t18 : Int, t18 = IntKind.wrap .i64 (t8 + 1) ∧ Inv t18 wv_1 ∧ mu t18 wv_1 < mu t8 wv)) ∧
    ((decide ((t8 : Int) < ((s_n : Nat) : Int))) = false →
      R (.int .i64 (-1)) wv)
theorem slices_IndexFunc_impl_Acct_impl_Acct_eq (s_p : Option Addr) (s_n : Nat) (s_c : Nat) (f : Value) (w : World) (R : Value → World → Prop) : slices_IndexFunc_impl_Acct_impl_Acct s_p s_n s_c f w R = fsem P Tryd.f45 (fun k => cond (Nat.beq k 3) [(8, .one (.int .i64))] ([])) [(.slice s_p s_n s_c), f] R w := by kernel_rfl
theorem slices_IndexFunc_impl_Acct_impl_Acct_ret {s_p : Option Addr} {s_n : Nat} {s_c : Nat} {f : Value} {w : World} {R : Value → World → Prop} (h : slices_IndexFunc_impl_Acct_impl_Acct s_p s_n s_c f w R) : Ret P 45 [(.slice s_p s_n s_c), f] w R :=
  Ret.of_fsem Tryd.func45 rfl (Eq.mp (slices_IndexFunc_impl_Acct_impl_Acct_eq s_p s_n s_c f w R) h)
def impl_AcctAt_1 (a0 : ByteArray) (a1 : ByteArray) (a2 : Bool) (a3_p : Option Addr) (a3_n : Nat) (a3_c : Nat) (cap0 : Option Addr) (w : World) (R : Value → World → Prop) : Prop :=
  ∀ (r : Nat) (wv : World), New w (.cells ⟨[(.string a0), (.string a1), (.bool a2), (.slice a3_p a3_n a3_c)]⟩ 54 (0, 0)) r wv →
  ∃ (t5 : ByteArray), Loads P 9 ((⟨r, 0, none⟩ : Addr).add 0) (.string t5) wv ∧ ptrS cap0 fun ad => ∃ (t6 : ByteArray), Loads P 9 ad (.string t6) wv ∧ R (.bool (decide (t5 = t6))) wv
theorem impl_AcctAt_1_eq (a0 : ByteArray) (a1 : ByteArray) (a2 : Bool) (a3_p : Option Addr) (a3_n : Nat) (a3_c : Nat) (cap0 : Option Addr) (w : World) (R : Value → World → Prop) : impl_AcctAt_1 a0 a1 a2 a3_p a3_n a3_c cap0 w R = fsem P Tryd.f46 (fun k => []) [(.agg #[(.string a0), (.string a1), (.bool a2), (.slice a3_p a3_n a3_c)]), (.pointer cap0)] R w := by kernel_rfl
theorem impl_AcctAt_1_ret {a0 : ByteArray} {a1 : ByteArray} {a2 : Bool} {a3_p : Option Addr} {a3_n : Nat} {a3_c : Nat} {cap0 : Option Addr} {w : World} {R : Value → World → Prop} (h : impl_AcctAt_1 a0 a1 a2 a3_p a3_n a3_c cap0 w R) : Ret P 46 [(.agg #[(.string a0), (.string a1), (.bool a2), (.slice a3_p a3_n a3_c)]), (.pointer cap0)] w R :=
  Ret.of_fsem Tryd.func46 rfl (Eq.mp (impl_AcctAt_1_eq a0 a1 a2 a3_p a3_n a3_c cap0 w R) h)
end Go.Proofs.YteakifedfnnmeaaDoor

namespace Go.Proofs.YteakifedfnnmeaaDoor
open Go Go.Proofs.YteakifedfnnmeaaDoor.Sx
set_option linter.unusedVariables false
set_option maxRecDepth 100000
def impl_bookCopy (b0_p : Option Addr) (b0_n : Nat) (b0_c : Nat) (w : World) (R : Value → World → Prop) : Prop :=
  ∀ (r : Nat) (wv : World), New w (.cells ⟨[(.slice b0_p b0_n b0_c)]⟩ 28 (0, 0)) r wv →
  ∀ (r_1 : Nat) (wv_1 : World), New wv (.cells ⟨[(.slice none 0 0)]⟩ 28 (0, 0)) r_1 wv_1 →
  ∃ (t7_p : Option Addr) (t7_n : Nat) (t7_c : Nat), Loads P 26 ((⟨r, 0, none⟩ : Addr).add 0) (.slice t7_p t7_n t7_c) wv_1 ∧ ∃ t9 : Int, t9 = IntKind.wrap .i64 (((t7_n : Nat) : Int) + 1) ∧ (0 ≤ (0 : Int) ∧ (0 : Int) ≤ t9 ∧ ((64 : Nat) : Int) * t9 ≤ 281474976710656) ∧
  ∀ (r_2 : Nat) (wv_2 : World), New wv_1 (.cells ⟨zeroRow (.agg #[(.string ByteArray.empty), (.string ByteArray.empty), (.bool false), (.slice none 0 0)]) (t9.toNat * 4)⟩ 54 (0, 0)) r_2 wv_2 →
  ∀ (r_3 : Nat) (wv_3 : World), New wv_2 (.cells ⟨[(.slice none 0 0)]⟩ 28 (0, 0)) r_3 wv_3 →
  ∃ wv_4, Stores P 28 ⟨r_3, 0, none⟩ (.agg #[(.slice (some ⟨r_2, 0, none⟩) 0 t9.toNat)]) wv_3 wv_4 ∧
  ∃ (t13_p : Option Addr) (t13_n : Nat) (t13_c : Nat), Loads P 26 ((⟨r, 0, none⟩ : Addr).add 0) (.slice t13_p t13_n t13_c) wv_4 ∧ ∃ (Inv : Int → World → Prop) (mu : Int → World → Nat), Inv 0 wv_4 ∧
  ∀ (junk : Fr) (wv_5 : World) (t15 : Int), Inv t15 wv_5 →
    ((decide ((t15 : Int) < ((t13_n : Nat) : Int))) = true →
      (0 ≤ (t15 : Int) ∧ (t15 : Int) < (t13_n : Nat)) ∧ ptrS t13_p fun ad => ∃ (t180 : ByteArray) (t181 : ByteArray) (t182 : Bool) (t183_p : Option Addr) (t183_n : Nat) (t183_c : Nat), Loads P 54 (ad.add (t15.toNat * 4)) (.agg #[(.string t180), (.string t181), (.bool t182), (.slice t183_p t183_n t183_c)]) wv_5 ∧ ∀ (r_4 : Nat) (wv_6 : World), New wv_5 (.cells ⟨[(.string ByteArray.empty), (.string ByteArray.empty), (.bool false), (.slice none 0 0)]⟩ 54 (0, 0)) r_4 wv_6 →
      ∃ wv_7, Stores P 54 ⟨r_4, 0, none⟩ (.agg #[(.string t180), (.string t181), (.bool t182), (.slice t183_p t183_n t183_c)]) wv_6 wv_7 ∧
      ∃ (t20_p : Option Addr) (t20_n : Nat) (t20_c : Nat), (∀ wv_8, Ext wv_7.drew wv_8 → Loads P 26 ((⟨r_3, 0, none⟩ : Addr).add 0) (.slice t20_p t20_n t20_c) wv_8) ∧ ∃ (t22 : ByteArray), (∀ wv_9, Ext wv_7.drew wv_9 → Loads P 9 ((⟨r_4, 0, none⟩ : Addr).add 0) (.string t22) wv_9) ∧ ∃ (t240 : ByteArray) (t241 : Bool) (t242_p : Option Addr) (t242_n : Nat) (t242_c : Nat), (∀ wv_10, Ext wv_7.drew wv_10 → Loads P 44 ((⟨r_4, 0, none⟩ : Addr).add 1) (.agg #[(.string t240), (.bool t241), (.slice t242_p t242_n t242_c)]) wv_10) ∧ Calls P 71 ⟨[(.agg #[(.string t240), (.bool t241), (.slice t242_p t242_n t242_c)])]⟩ wv_7.drew fun e wv_11 =>
      ∃ (t250 : ByteArray) (t251 : Bool) (t252_p : Option Addr) (t252_n : Nat) (t252_c : Nat), e = .returned (.agg #[(.string t250), (.bool t251), (.slice t252_p t252_n t252_c)]) ∧
      Ext wv_7.drew wv_11 ∧ ∀ (r_5 : Nat) (wv_12 : World), New wv_11 (.cells ⟨[(.string t22), (.string t250), (.bool t251), (.slice t252_p t252_n t252_c)]⟩ 54 (0, 0)) r_5 wv_12 →
      Ext wv_11 wv_12 ∧ ∃ (t28_p : Option Addr) (t28_n : Nat) (t28_c : Nat) (wv_13 : World), Appends P [26, 26] [(.slice t20_p t20_n t20_c), (.slice (some ⟨r_5, 0, none⟩) 1 1)] (.slice t28_p t28_n t28_c) wv_12 wv_13 ∧
      ∃ wv_14, Stores P 26 ((⟨r_3, 0, none⟩ : Addr).add 0) (.slice t28_p t28_n t28_c) wv_13 wv_14 ∧
      ∃ t30 : Int, t30 = IntKind.wrap .i64 (t15 + 1) ∧ Inv t30 wv_14 ∧ mu t30 wv_14 < mu t15 wv_5) ∧
    ((decide ((t15 : Int) < ((t13_n : Nat) : Int))) = false →
      ∃ (t310_p : Option Addr) (t310_n : Nat) (t310_c : Nat), Loads P 28 ⟨r_3, 0, none⟩ (.agg #[(.slice t310_p t310_n t310_c)]) wv_5 ∧ ∃ wv_15, Stores P 28 ⟨r_1, 0, none⟩ (.agg #[(.slice t310_p t310_n t310_c)]) wv_5 wv_15 ∧
      ∃ (r0_p : Option Addr) (r0_n : Nat) (r0_c : Nat), Loads P 28 ⟨r_1, 0, none⟩ (.agg #[(.slice r0_p r0_n r0_c)]) wv_15 ∧ R (.agg #[(.slice r0_p r0_n r0_c)]) wv_15)
theorem impl_bookCopy_eq (b0_p : Option Addr) (b0_n : Nat) (b0_c : Nat) (w : World) (R : Value → World → Prop) : impl_bookCopy b0_p b0_n b0_c w R = fsem P Tryd.f47 (fun k => cond (Nat.beq k 4) [(15, .one (.int .i64))] ([])) [(.agg #[(.slice b0_p b0_n b0_c)])] R w := by kernel_rfl
theorem impl_bookCopy_ret {b0_p : Option Addr} {b0_n : Nat} {b0_c : Nat} {w : World} {R : Value → World → Prop} (h : impl_bookCopy b0_p b0_n b0_c w R) : Ret P 47 [(.agg #[(.slice b0_p b0_n b0_c)])] w R :=
  Ret.of_fsem Tryd.func47 rfl (Eq.mp (impl_bookCopy_eq b0_p b0_n b0_c w R) h)
def spec_l01All (s : ByteArray) (lo : Int) (hi : Int) (low : Int) (high : Int) (w : World) (R : Value → World → Prop) : Prop :=
  ∃ (Inv : Int → World → Prop) (mu : Int → World → Nat), Inv 0 w ∧
  ∀ (junk : Fr) (wv : World) (i : Int), Inv i wv →
    ((decide ((i : Int) < ((s.size : Nat) : Int))) = true →
      0 ≤ (i : Int) ∧ ∃ b : UInt8, s[i.toNat]? = some b ∧ ((decide ((((b.toNat : Nat) : Int) : Int) < lo)) = true →
        (true = true →
          0 ≤ (i : Int) ∧ ∃ b_1 : UInt8, s[i.toNat]? = some b_1 ∧ ((decide ((((b_1.toNat : Nat) : Int) : Int) < low)) = true →
            (true = true →
              R (.bool false) wv) ∧
            (true = false →
              ∃ t17 : Int, t17 = IntKind.wrap .i64 (i + 1) ∧ Inv t17 wv ∧ mu t17 wv < mu i wv)) ∧
          ((decide ((((b_1.toNat : Nat) : Int) : Int) < low)) = false →
            0 ≤ (i : Int) ∧ ∃ b_2 : UInt8, s[i.toNat]? = some b_2 ∧ ((decide ((high : Int) < ((b_2.toNat : Nat) : Int))) = true →
              R (.bool false) wv) ∧
            ((decide ((high : Int) < ((b_2.toNat : Nat) : Int))) = false →
              ∃ t17_1 : Int, t17_1 = IntKind.wrap .i64 (i + 1) ∧ Inv t17_1 wv ∧ mu t17_1 wv < mu i wv))) ∧
        (true = false →
          (false = true →
            R (.bool false) wv) ∧
          (false = false →
            ∃ t17_2 : Int, t17_2 = IntKind.wrap .i64 (i + 1) ∧ Inv t17_2 wv ∧ mu t17_2 wv < mu i wv))) ∧
      ((decide ((((b.toNat : Nat) : Int) : Int) < lo)) = false →
        0 ≤ (i : Int) ∧ ∃ b_3 : UInt8, s[i.toNat]? = some b_3 ∧ ((decide ((hi : Int) < ((b_3.toNat : Nat) : Int))) = true →
          0 ≤ (i : Int) ∧ ∃ b_4 : UInt8, s[i.toNat]? = some b_4 ∧ ((decide ((((b_4.toNat : Nat) : Int) : Int) < low)) = true →
            (true = true →
              R (.bool false) wv) ∧
            (true = false →
              ∃ t17_3 : Int, t17_3 = IntKind.wrap .i64 (i + 1) ∧ Inv t17_3 wv ∧ mu t17_3 wv < mu i wv)) ∧
          ((decide ((((b_4.toNat : Nat) : Int) : Int) < low)) = false →
            0 ≤ (i : Int) ∧ ∃ b_5 : UInt8, s[i.toNat]? = some b_5 ∧ ((decide ((high : Int) < ((b_5.toNat : Nat) : Int))) = true →
              R (.bool false) wv) ∧
            ((decide ((high : Int) < ((b_5.toNat : Nat) : Int))) = false →
              ∃ t17_4 : Int, t17_4 = IntKind.wrap .i64 (i + 1) ∧ Inv t17_4 wv ∧ mu t17_4 wv < mu i wv))) ∧
        ((decide ((hi : Int) < ((b_3.toNat : Nat) : Int))) = false →
          (false = true →
            R (.bool false) wv) ∧
          (false = false →
            ∃ t17_5 : Int, t17_5 = IntKind.wrap .i64 (i + 1) ∧ Inv t17_5 wv ∧ mu t17_5 wv < mu i wv)))) ∧
    ((decide ((i : Int) < ((s.size : Nat) : Int))) = false →
      R (.bool (decide ((0 : Int) < ((s.size : Nat) : Int)))) wv)
theorem spec_l01All_eq (s : ByteArray) (lo : Int) (hi : Int) (low : Int) (high : Int) (w : World) (R : Value → World → Prop) : spec_l01All s lo hi low high w R = fsem P Tryd.f64 (fun k => cond (Nat.beq k 3) [(11, .one (.int .i64))] ([])) [(.string s), (.int .u8 lo), (.int .u8 hi), (.int .u8 low), (.int .u8 high)] R w := by kernel_rfl
theorem spec_l01All_ret {s : ByteArray} {lo : Int} {hi : Int} {low : Int} {high : Int} {w : World} {R : Value → World → Prop} (h : spec_l01All s lo hi low high w R) : Ret P 64 [(.string s), (.int .u8 lo), (.int .u8 hi), (.int .u8 low), (.int .u8 high)] w R :=
  Ret.of_fsem Tryd.func64 rfl (Eq.mp (spec_l01All_eq s lo hi low high w R) h)
def spec_CurKnown (code : ByteArray) (w : World) (R : Value → World → Prop) : Prop :=
  Calls P 80 ⟨[(.string code)]⟩ w fun e wv =>
  ∃ (t40 : ByteArray) (t41 : ByteArray) (t42 : Int) (t43 : Int), e = .returned (.agg #[(.string t40), (.string t41), (.int .i64 t42), (.int .i64 t43)]) ∧
  R (.bool (decide (t40 ≠ (S [])))) wv
theorem spec_CurKnown_eq (code : ByteArray) (w : World) (R : Value → World → Prop) : spec_CurKnown code w R = fsem P Tryd.f65 (fun k => []) [(.string code)] R w := by kernel_rfl
theorem spec_CurKnown_ret {code : ByteArray} {w : World} {R : Value → World → Prop} (h : spec_CurKnown code w R) : Ret P 65 [(.string code)] w R :=
  Ret.of_fsem Tryd.func65 rfl (Eq.mp (spec_CurKnown_eq code w R) h)
def spec_IntOk (x0 : Bool) (x1_p : Option Addr) (x1_n : Nat) (x1_c : Nat) (w : World) (R : Value → World → Prop) : Prop :=
  ∀ (r : Nat) (wv : World), New w (.cells ⟨[(.bool x0), (.slice x1_p x1_n x1_c)]⟩ 42 (0, 0)) r wv →
  ∃ (t4_p : Option Addr) (t4_n : Nat) (t4_c : Nat), Loads P 35 ((⟨r, 0, none⟩ : Addr).add 1) (.slice t4_p t4_n t4_c) wv ∧ Calls P 81 ⟨[(.slice t4_p t4_n t4_c)]⟩ wv fun e wv_1 =>
  ∃ (t5 : Bool), e = .returned (.bool t5) ∧
  (t5 = true →
    ∃ (t8 : Bool), Loads P 4 ((⟨r, 0, none⟩ : Addr).add 0) (.bool t8) wv_1 ∧ ((!t8) = true →
      R (.bool true) wv_1) ∧
    ((!t8) = false →
      ∃ (t12_p : Option Addr) (t12_n : Nat) (t12_c : Nat), Loads P 35 ((⟨r, 0, none⟩ : Addr).add 1) (.slice t12_p t12_n t12_c) wv_1 ∧ R (.bool (decide ((0 : Int) < ((t12_n : Nat) : Int)))) wv_1)) ∧
  (t5 = false →
    R (.bool false) wv_1)
theorem spec_IntOk_eq (x0 : Bool) (x1_p : Option Addr) (x1_n : Nat) (x1_c : Nat) (w : World) (R : Value → World → Prop) : spec_IntOk x0 x1_p x1_n x1_c w R = fsem P Tryd.f66 (fun k => []) [(.agg #[(.bool x0), (.slice x1_p x1_n x1_c)])] R w := by kernel_rfl
theorem spec_IntOk_ret {x0 : Bool} {x1_p : Option Addr} {x1_n : Nat} {x1_c : Nat} {w : World} {R : Value → World → Prop} (h : spec_IntOk x0 x1_p x1_n x1_c w R) : Ret P 66 [(.agg #[(.bool x0), (.slice x1_p x1_n x1_c)])] w R :=
  Ret.of_fsem Tryd.func66 rfl (Eq.mp (spec_IntOk_eq x0 x1_p x1_n x1_c w R) h)
def impl_isLower (c : Int) (w : World) (R : Value → World → Prop) : Prop :=
  ((decide ((97 : Int) ≤ c)) = true →
    R (.bool (decide ((c : Int) ≤ 122))) w) ∧
  ((decide ((97 : Int) ≤ c)) = false →
    R (.bool false) w)
theorem impl_isLower_eq (c : Int) (w : World) (R : Value → World → Prop) : impl_isLower c w R = fsem P Tryd.f67 (fun k => []) [(.int .u8 c)] R w := by kernel_rfl
theorem impl_isLower_ret {c : Int} {w : World} {R : Value → World → Prop} (h : impl_isLower c w R) : Ret P 67 [(.int .u8 c)] w R :=
  Ret.of_fsem Tryd.func67 rfl (Eq.mp (impl_isLower_eq c w R) h)
def impl_isDigit (c : Int) (w : World) (R : Value → World → Prop) : Prop :=
  ((decide ((48 : Int) ≤ c)) = true →
    R (.bool (decide ((c : Int) ≤ 57))) w) ∧
  ((decide ((48 : Int) ≤ c)) = false →
    R (.bool false) w)
theorem impl_isDigit_eq (c : Int) (w : World) (R : Value → World → Prop) : impl_isDigit c w R = fsem P Tryd.f68 (fun k => []) [(.int .u8 c)] R w := by kernel_rfl
theorem impl_isDigit_ret {c : Int} {w : World} {R : Value → World → Prop} (h : impl_isDigit c w R) : Ret P 68 [(.int .u8 c)] w R :=
  Ret.of_fsem Tryd.func68 rfl (Eq.mp (impl_isDigit_eq c w R) h)
def impl_CurKnown (code : ByteArray) (w : World) (R : Value → World → Prop) : Prop :=
  Calls P 82 ⟨[(.string code)]⟩ w fun e wv =>
  ∃ (t70 : ByteArray) (t71 : ByteArray) (t72 : Int) (t73 : Int) (t7 : Bool), e = .returned (.tuple #[(.agg #[(.string t70), (.string t71), (.int .i64 t72), (.int .i64 t73)]), (.bool t7)]) ∧
  ∀ (r : Nat) (wv_1 : World), New wv (.cells ⟨[(.string ByteArray.empty), (.string ByteArray.empty), (.int .i64 0), (.int .i64 0)]⟩ 108 (0, 0)) r wv_1 →
  ∃ wv_2, Stores P 108 ⟨r, 0, none⟩ (.agg #[(.string t70), (.string t71), (.int .i64 t72), (.int .i64 t73)]) wv_1 wv_2 ∧
  R (.bool t7) wv_2
theorem impl_CurKnown_eq (code : ByteArray) (w : World) (R : Value → World → Prop) : impl_CurKnown code w R = fsem P Tryd.f69 (fun k => []) [(.string code)] R w := by kernel_rfl
theorem impl_CurKnown_ret {code : ByteArray} {w : World} {R : Value → World → Prop} (h : impl_CurKnown code w R) : Ret P 69 [(.string code)] w R :=
  Ret.of_fsem Tryd.func69 rfl (Eq.mp (impl_CurKnown_eq code w R) h)
def impl_IntOk (x0 : Bool) (x1_p : Option Addr) (x1_n : Nat) (x1_c : Nat) (w : World) (R : Value → World → Prop) : Prop :=
  ∀ (r : Nat) (wv : World), New w (.cells ⟨[(.bool x0), (.slice x1_p x1_n x1_c)]⟩ 42 (0, 0)) r wv →
  ∃ (t4_p : Option Addr) (t4_n : Nat) (t4_c : Nat), Loads P 35 ((⟨r, 0, none⟩ : Addr).add 1) (.slice t4_p t4_n t4_c) wv ∧ Calls P 83 ⟨[(.slice t4_p t4_n t4_c)]⟩ wv fun e wv_1 =>
  ∃ (t5 : Bool), e = .returned (.bool t5) ∧
  (t5 = true →
    ∃ (t8 : Bool), Loads P 4 ((⟨r, 0, none⟩ : Addr).add 0) (.bool t8) wv_1 ∧ ((!t8) = true →
      R (.bool true) wv_1) ∧
    ((!t8) = false →
      ∃ (t12_p : Option Addr) (t12_n : Nat) (t12_c : Nat), Loads P 35 ((⟨r, 0, none⟩ : Addr).add 1) (.slice t12_p t12_n t12_c) wv_1 ∧ R (.bool (decide ((0 : Int) < ((t12_n : Nat) : Int)))) wv_1)) ∧
  (t5 = false →
    R (.bool false) wv_1)
theorem impl_IntOk_eq (x0 : Bool) (x1_p : Option Addr) (x1_n : Nat) (x1_c : Nat) (w : World) (R : Value → World → Prop) : impl_IntOk x0 x1_p x1_n x1_c w R = fsem P Tryd.f70 (fun k => []) [(.agg #[(.bool x0), (.slice x1_p x1_n x1_c)])] R w := by kernel_rfl
theorem impl_IntOk_ret {x0 : Bool} {x1_p : Option Addr} {x1_n : Nat} {x1_c : Nat} {w : World} {R : Value → World → Prop} (h : impl_IntOk x0 x1_p x1_n x1_c w R) : Ret P 70 [(.agg #[(.bool x0), (.slice x1_p x1_n x1_c)])] w R :=
  Ret.of_fsem Tryd.func70 rfl (Eq.mp (impl_IntOk_eq x0 x1_p x1_n x1_c w R) h)
def impl_moneyCopy (m0 : ByteArray) (m1 : Bool) (m2_p : Option Addr) (m2_n : Nat) (m2_c : Nat) (w : World) (R : Value → World → Prop) : Prop :=
  ∀ (r : Nat) (wv : World), New w (.cells ⟨[(.string m0), (.bool m1), (.slice m2_p m2_n m2_c)]⟩ 44 (0, 0)) r wv →
  ∀ (r_1 : Nat) (wv_1 : World), New wv (.cells ⟨[(.string ByteArray.empty), (.bool false), (.slice none 0 0)]⟩ 44 (0, 0)) r_1 wv_1 →
  ∃ (t6_p : Option Addr) (t6_n : Nat) (t6_c : Nat), Loads P 35 (((⟨r, 0, none⟩ : Addr).add 1).add 1) (.slice t6_p t6_n t6_c) wv_1 ∧ (0 ≤ (((t6_n : Nat) : Int) : Int) ∧ (((t6_n : Nat) : Int) : Int) ≤ ((t6_n : Nat) : Int) ∧ ((8 : Nat) : Int) * ((t6_n : Nat) : Int) ≤ 281474976710656) ∧
  ∀ (r_2 : Nat) (wv_2 : World), New wv_1 (.cells ⟨zeroRow (.int .i64 0) (t6_n * 1)⟩ 3 (0, 0)) r_2 wv_2 →
  ∃ (t12_p : Option Addr) (t12_n : Nat) (t12_c : Nat), Loads P 35 (((⟨r, 0, none⟩ : Addr).add 1).add 1) (.slice t12_p t12_n t12_c) wv_2 ∧ ∃ (t13 : Int) (wv_3 : World), Copies P [35, 35] [(.slice (some ⟨r_2, 0, none⟩) t6_n t6_n), (.slice t12_p t12_n t12_c)] (.int .i64 t13) wv_2 wv_3 ∧
  ∃ (t15 : ByteArray), (∀ wv_4, Ext wv_3.drew wv_4 → Loads P 9 ((⟨r, 0, none⟩ : Addr).add 0) (.string t15) wv_4) ∧ ∃ (t18 : Bool), (∀ wv_5, Ext wv_3.drew wv_5 → Loads P 4 (((⟨r, 0, none⟩ : Addr).add 1).add 0) (.bool t18) wv_5) ∧ (0 ≤ (((t6_n : Nat) : Int) : Int) ∧ (((t6_n : Nat) : Int) : Int) ≤ (t6_n : Nat)) ∧ (0 ≤ (((t6_n : Nat) : Int) : Int) ∧ (((t6_n : Nat) : Int) : Int) ≤ (t6_n : Nat)) ∧ ∃ wv_6, Stores P 44 ⟨r_1, 0, none⟩ (.agg #[(.string t15), (.bool t18), (.slice (sub (some ⟨r_2, 0, none⟩) 0 t6_n 1) (t6_n - 0) (t6_n - 0))]) wv_3.drew wv_6 ∧
  ∃ (r0 : ByteArray) (r1 : Bool) (r2_p : Option Addr) (r2_n : Nat) (r2_c : Nat), Loads P 44 ⟨r_1, 0, none⟩ (.agg #[(.string r0), (.bool r1), (.slice r2_p r2_n r2_c)]) wv_6 ∧ R (.agg #[(.string r0), (.bool r1), (.slice r2_p r2_n r2_c)]) wv_6
theorem impl_moneyCopy_eq (m0 : ByteArray) (m1 : Bool) (m2_p : Option Addr) (m2_n : Nat) (m2_c : Nat) (w : World) (R : Value → World → Prop) : impl_moneyCopy m0 m1 m2_p m2_n m2_c w R = fsem P Tryd.f71 (fun k => []) [(.agg #[(.string m0), (.bool m1), (.slice m2_p m2_n m2_c)])] R w := by kernel_rfl
theorem impl_moneyCopy_ret {m0 : ByteArray} {m1 : Bool} {m2_p : Option Addr} {m2_n : Nat} {m2_c : Nat} {w : World} {R : Value → World → Prop} (h : impl_moneyCopy m0 m1 m2_p m2_n m2_c w R) : Ret P 71 [(.agg #[(.string m0), (.bool m1), (.slice m2_p m2_n m2_c)])] w R :=
  Ret.of_fsem Tryd.func71 rfl (Eq.mp (impl_moneyCopy_eq m0 m1 m2_p m2_n m2_c w R) h)
def spec_l08Find (code : ByteArray) (w : World) (R : Value → World → Prop) : Prop :=
  ∀ (r : Nat) (wv : World), New w (.cells ⟨[(.string ByteArray.empty), (.string ByteArray.empty), (.int .i64 0), (.int .i64 0)]⟩ 104 (0, 0)) r wv →
  Calls P 92 ⟨[]⟩ wv fun e wv_1 =>
  ∃ (t5_p : Option Addr) (t5_n : Nat) (t5_c : Nat), e = .returned (.slice t5_p t5_n t5_c) ∧
  ∃ (Inv : Int → World → Prop) (mu : Int → World → Nat), Inv 0 wv_1 ∧
  ∀ (junk : Fr) (wv_2 : World) (t7 : Int), Inv t7 wv_2 →
    ((decide ((t7 : Int) < ((t5_n : Nat) : Int))) = true →
      (0 ≤ (t7 : Int) ∧ (t7 : Int) < (t5_n : Nat)) ∧ ptrS t5_p fun ad => ∃ (t100 : ByteArray) (t101 : ByteArray) (t102 : Int) (t103 : Int), Loads P 104 (ad.add (t7.toNat * 4)) (.agg #[(.string t100), (.string t101), (.int .i64 t102), (.int .i64 t103)]) wv_2 ∧ ∀ (r_1 : Nat) (wv_3 : World), New wv_2 (.cells ⟨[(.string ByteArray.empty), (.string ByteArray.empty), (.int .i64 0), (.int .i64 0)]⟩ 104 (0, 0)) r_1 wv_3 →
      ∃ wv_4, Stores P 104 ⟨r_1, 0, none⟩ (.agg #[(.string t100), (.string t101), (.int .i64 t102), (.int .i64 t103)]) wv_3 wv_4 ∧
      ∃ (t12 : ByteArray), Loads P 9 ((⟨r_1, 0, none⟩ : Addr).add 0) (.string t12) wv_4 ∧ ((decide (t12 = code)) = true →
        ∃ (t150 : ByteArray) (t151 : ByteArray) (t152 : Int) (t153 : Int), Loads P 104 ⟨r_1, 0, none⟩ (.agg #[(.string t150), (.string t151), (.int .i64 t152), (.int .i64 t153)]) wv_4 ∧ ∃ wv_5, Stores P 104 ⟨r, 0, none⟩ (.agg #[(.string t150), (.string t151), (.int .i64 t152), (.int .i64 t153)]) wv_4 wv_5 ∧
        ∃ (r0 : ByteArray) (r1 : ByteArray) (r2 : Int) (r3 : Int), Loads P 104 ⟨r, 0, none⟩ (.agg #[(.string r0), (.string r1), (.int .i64 r2), (.int .i64 r3)]) wv_5 ∧ R (.agg #[(.string r0), (.string r1), (.int .i64 r2), (.int .i64 r3)]) wv_5) ∧
      ((decide (t12 = code)) = false →
        ∃ t16 : Int, t16 = IntKind.wrap .i64 (t7 + 1) ∧ Inv t16 wv_4 ∧ mu t16 wv_4 < mu t7 wv_2)) ∧
    ((decide ((t7 : Int) < ((t5_n : Nat) : Int))) = false →
      ∃ wv_6, Stores P 104 ⟨r, 0, none⟩ (.agg #[(.string ByteArray.empty), (.string ByteArray.empty), (.int .i64 0), (.int .i64 0)]) wv_2 wv_6 ∧
      ∃ (r0_1 : ByteArray) (r1_1 : ByteArray) (r2_1 : Int) (r3_1 : Int), Loads P 104 ⟨r, 0, none⟩ (.agg #[(.string r0_1), (.string r1_1), (.int .i64 r2_1), (.int .i64 r3_1)]) wv_6 ∧ R (.agg #[(.string r0_1), (.string r1_1), (.int .i64 r2_1), (.int .i64 r3_1)]) wv_6)
theorem spec_l08Find_eq (code : ByteArray) (w : World) (R : Value → World → Prop) : spec_l08Find code w R = fsem P Tryd.f80 (fun k => cond (Nat.beq k 3) [(7, .one (.int .i64))] ([])) [(.string code)] R w := by kernel_rfl
theorem spec_l08Find_ret {code : ByteArray} {w : World} {R : Value → World → Prop} (h : spec_l08Find code w R) : Ret P 80 [(.string code)] w R :=
  Ret.of_fsem Tryd.func80 rfl (Eq.mp (spec_l08Find_eq code w R) h)
def spec_NatOk (a_p : Option Addr) (a_n : Nat) (a_c : Nat) (w : World) (R : Value → World → Prop) : Prop :=
  ∃ (Inv : Int → World → Prop) (mu : Int → World → Nat), Inv 0 w ∧
  ∀ (junk : Fr) (wv : World) (t7 : Int), Inv t7 wv →
    ((decide ((t7 : Int) < ((a_n : Nat) : Int))) = true →
      (0 ≤ (t7 : Int) ∧ (t7 : Int) < (a_n : Nat)) ∧ ptrS a_p fun ad => ∃ (t10 : Int), Loads P 3 (ad.add (t7.toNat * 1)) (.int .i64 t10) wv ∧ Calls P 93 ⟨[(.int .i64 t10), (.int .i64 0), (.int .i64 999999999)]⟩ wv fun e wv_1 =>
      ∃ (t12 : Bool), e = .returned (.bool t12) ∧
      ((!t12) = true →
        R (.bool false) wv_1) ∧
      ((!t12) = false →
        ∃ t14 : Int, t14 = IntKind.wrap .i64 (t7 + 1) ∧ Inv t14 wv_1 ∧ mu t14 wv_1 < mu t7 wv)) ∧
    ((decide ((t7 : Int) < ((a_n : Nat) : Int))) = false →
      ((decide ((((a_n : Nat) : Int) : Int) ≤ 50)) = true →
        ((decide ((((a_n : Nat) : Int) : Int) = 0)) = true →
          R (.bool true) wv) ∧
        ((decide ((((a_n : Nat) : Int) : Int) = 0)) = false →
          ∃ t26 : Int, t26 = IntKind.wrap .i64 (((a_n : Nat) : Int) - 1) ∧ (0 ≤ (t26 : Int) ∧ (t26 : Int) < (a_n : Nat)) ∧ ptrS a_p fun ad_1 => ∃ (t28 : Int), Loads P 3 (ad_1.add (t26.toNat * 1)) (.int .i64 t28) wv ∧ R (.bool (decide ((t28 : Int) ≠ 0))) wv)) ∧
      ((decide ((((a_n : Nat) : Int) : Int) ≤ 50)) = false →
        R (.bool false) wv))
theorem spec_NatOk_eq (a_p : Option Addr) (a_n : Nat) (a_c : Nat) (w : World) (R : Value → World → Prop) : spec_NatOk a_p a_n a_c w R = fsem P Tryd.f81 (fun k => cond (Nat.beq k 3) [(7, .one (.int .i64))] ([])) [(.slice a_p a_n a_c)] R w := by kernel_rfl
theorem spec_NatOk_ret {a_p : Option Addr} {a_n : Nat} {a_c : Nat} {w : World} {R : Value → World → Prop} (h : spec_NatOk a_p a_n a_c w R) : Ret P 81 [(.slice a_p a_n a_c)] w R :=
  Ret.of_fsem Tryd.func81 rfl (Eq.mp (spec_NatOk_eq a_p a_n a_c w R) h)
def impl_currencyOf (code : ByteArray) (w : World) (R : Value → World → Prop) : Prop :=
  ∀ (r : Nat) (wv : World), New w (.cells ⟨[(.string ByteArray.empty), (.string ByteArray.empty), (.int .i64 0), (.int .i64 0)]⟩ 108 (0, 0)) r wv →
  ∃ (t6 : Value), Loads P 116 ⟨0, 0, none⟩ t6 wv ∧ ∃ (Inv : Int → World → Prop) (mu : Int → World → Nat), Inv 0 wv ∧
  ∀ (junk : Fr) (wv_1 : World) (t7 : Int), Inv t7 wv_1 →
    ((decide ((t7 : Int) < 20)) = true →
      indexS P 116 t6 (.int .i64 t7) fun (el : Value) => ∀ (r_1 : Nat) (wv_2 : World), New wv_1 (.cells ⟨[(.string ByteArray.empty), (.string ByteArray.empty), (.int .i64 0), (.int .i64 0)]⟩ 108 (0, 0)) r_1 wv_2 →
      ∃ wv_3, Stores P 108 ⟨r_1, 0, none⟩ el wv_2 wv_3 ∧
      ∃ (t11 : ByteArray), Loads P 9 ((⟨r_1, 0, none⟩ : Addr).add 0) (.string t11) wv_3 ∧ ((decide (t11 = code)) = true →
        ∃ (t140 : ByteArray) (t141 : ByteArray) (t142 : Int) (t143 : Int), Loads P 108 ⟨r_1, 0, none⟩ (.agg #[(.string t140), (.string t141), (.int .i64 t142), (.int .i64 t143)]) wv_3 ∧ ∃ wv_4, Stores P 108 ⟨r, 0, none⟩ (.agg #[(.string t140), (.string t141), (.int .i64 t142), (.int .i64 t143)]) wv_3 wv_4 ∧
        ∃ (r0 : ByteArray) (r1 : ByteArray) (r2 : Int) (r3 : Int), Loads P 108 ⟨r, 0, none⟩ (.agg #[(.string r0), (.string r1), (.int .i64 r2), (.int .i64 r3)]) wv_4 ∧ R (.tuple #[(.agg #[(.string r0), (.string r1), (.int .i64 r2), (.int .i64 r3)]), (.bool true)]) wv_4) ∧
      ((decide (t11 = code)) = false →
        ∃ t15 : Int, t15 = IntKind.wrap .i64 (t7 + 1) ∧ Inv t15 wv_3 ∧ mu t15 wv_3 < mu t7 wv_1)) ∧
    ((decide ((t7 : Int) < 20)) = false →
      ∃ wv_5, Stores P 108 ⟨r, 0, none⟩ (.agg #[(.string ByteArray.empty), (.string ByteArray.empty), (.int .i64 0), (.int .i64 0)]) wv_1 wv_5 ∧
      ∃ (r0_1 : ByteArray) (r1_1 : ByteArray) (r2_1 : Int) (r3_1 : Int), Loads P 108 ⟨r, 0, none⟩ (.agg #[(.string r0_1), (.string r1_1), (.int .i64 r2_1), (.int .i64 r3_1)]) wv_5 ∧ R (.tuple #[(.agg #[(.string r0_1), (.string r1_1), (.int .i64 r2_1), (.int .i64 r3_1)]), (.bool false)]) wv_5)
theorem impl_currencyOf_eq (code : ByteArray) (w : World) (R : Value → World → Prop) : impl_currencyOf code w R = fsem P Tryd.f82 (fun k => cond (Nat.beq k 3) [(7, .one (.int .i64))] ([])) [(.string code)] R w := by kernel_rfl
theorem impl_currencyOf_ret {code : ByteArray} {w : World} {R : Value → World → Prop} (h : impl_currencyOf code w R) : Ret P 82 [(.string code)] w R :=
  Ret.of_fsem Tryd.func82 rfl (Eq.mp (impl_currencyOf_eq code w R) h)
def impl_NatOk_j0 (a_p : Option Addr) (a_n : Nat) (W : World) (R : Value → World → Prop) : Prop :=
  ∃ (Inv : Int → World → Prop) (mu : Int → World → Nat), Inv 0 W ∧
  ∀ (junk : Fr) (wv : World) (t24 : Int), Inv t24 wv →
    ((decide ((t24 : Int) < ((a_n : Nat) : Int))) = true →
      (0 ≤ (t24 : Int) ∧ (t24 : Int) < (a_n : Nat)) ∧ ptrS a_p fun ad => ∃ (t27 : Int), Loads P 3 (ad.add (t24.toNat * 1)) (.int .i64 t27) wv ∧ ((decide ((t27 : Int) < 0)) = true →
        (true = true →
          R (.bool false) wv) ∧
        (true = false →
          ∃ t34 : Int, t34 = IntKind.wrap .i64 (t24 + 1) ∧ Inv t34 wv ∧ mu t34 wv < mu t24 wv)) ∧
      ((decide ((t27 : Int) < 0)) = false →
        ((decide ((1000000000 : Int) ≤ t27)) = true →
          R (.bool false) wv) ∧
        ((decide ((1000000000 : Int) ≤ t27)) = false →
          ∃ t34_1 : Int, t34_1 = IntKind.wrap .i64 (t24 + 1) ∧ Inv t34_1 wv ∧ mu t34_1 wv < mu t24 wv))) ∧
    ((decide ((t24 : Int) < ((a_n : Nat) : Int))) = false →
      R (.bool true) wv)
def impl_NatOk (a_p : Option Addr) (a_n : Nat) (a_c : Nat) (w : World) (R : Value → World → Prop) : Prop :=
  ((decide ((50 : Int) < ((a_n : Nat) : Int))) = true →
    (true = true →
      R (.bool false) w) ∧
    (true = false →
      impl_NatOk_j0 a_p a_n w R)) ∧
  ((decide ((50 : Int) < ((a_n : Nat) : Int))) = false →
    ((decide ((0 : Int) < ((a_n : Nat) : Int))) = true →
      ∃ t16 : Int, t16 = IntKind.wrap .i64 (((a_n : Nat) : Int) - 1) ∧ (0 ≤ (t16 : Int) ∧ (t16 : Int) < (a_n : Nat)) ∧ ptrS a_p fun ad_1 => ∃ (t18 : Int), Loads P 3 (ad_1.add (t16.toNat * 1)) (.int .i64 t18) w ∧ ((decide ((t18 : Int) = 0)) = true →
        R (.bool false) w) ∧
      ((decide ((t18 : Int) = 0)) = false →
        impl_NatOk_j0 a_p a_n w R)) ∧
    ((decide ((0 : Int) < ((a_n : Nat) : Int))) = false →
      (false = true →
        R (.bool false) w) ∧
      (false = false →
        impl_NatOk_j0 a_p a_n w R)))
theorem impl_NatOk_eq (a_p : Option Addr) (a_n : Nat) (a_c : Nat) (w : World) (R : Value → World → Prop) : impl_NatOk a_p a_n a_c w R = fsem P Tryd.f83 (fun k => cond (Nat.beq k 5) [(24, .one (.int .i64))] ([])) [(.slice a_p a_n a_c)] R w := by kernel_rfl
theorem impl_NatOk_ret {a_p : Option Addr} {a_n : Nat} {a_c : Nat} {w : World} {R : Value → World → Prop} (h : impl_NatOk a_p a_n a_c w R) : Ret P 83 [(.slice a_p a_n a_c)] w R :=
  Ret.of_fsem Tryd.func83 rfl (Eq.mp (impl_NatOk_eq a_p a_n a_c w R) h)
def spec_l08Table (w : World) (R : Value → World → Prop) : Prop :=
  ∀ (r : Nat) (wv : World), New w (.cells ⟨[(.string (S [65, 85, 68])), (.string (S [48, 51, 54])), (.int .i64 2), (.int .i64 5), (.string (S [66, 72, 68])), (.string (S [48, 52, 56])), (.int .i64 3), (.int .i64 5), (.string (S [67, 65, 68])), (.string (S [49, 50, 52])), (.int .i64 2), (.int .i64 5), (.string (S [67, 72, 70])), (.string (S [55, 53, 54])), (.int .i64 2), (.int .i64 5), (.string (S [67, 76, 70])), (.string (S [57, 57, 48])), (.int .i64 4), (.int .i64 1), (.string (S [67, 90, 75])), (.string (S [50, 48, 51])), (.int .i64 2), (.int .i64 100), (.string (S [68, 75, 75])), (.string (S [50, 48, 56])), (.int .i64 2), (.int .i64 50), (.string (S [69, 85, 82])), (.string (S [57, 55, 56])), (.int .i64 2), (.int .i64 1), (.string (S [71, 66, 80])), (.string (S [56, 50, 54])), (.int .i64 2), (.int .i64 1), (.string (S [72, 85, 70])), (.string (S [51, 52, 56])), (.int .i64 2), (.int .i64 500), (.string (S [73, 83, 75])), (.string (S [51, 53, 50])), (.int .i64 0), (.int .i64 1), (.string (S [74, 80, 89])), (.string (S [51, 57, 50])), (.int .i64 0), (.int .i64 1), (.string (S [75, 82, 87])), (.string (S [52, 49, 48])), (.int .i64 0), (.int .i64 10), (.string (S [75, 87, 68])), (.string (S [52, 49, 52])), (.int .i64 3), (.int .i64 5), (.string (S [78, 79, 75])), (.string (S [53, 55, 56])), (.int .i64 2), (.int .i64 100), (.string (S [78, 90, 68])), (.string (S [53, 53, 52])), (.int .i64 2), (.int .i64 10), (.string (S [80, 76, 78])), (.string (S [57, 56, 53])), (.int .i64 2), (.int .i64 1), (.string (S [83, 69, 75])), (.string (S [55, 53, 50])), (.int .i64 2), (.int .i64 100), (.string (S [84, 78, 68])), (.string (S [55, 56, 56])), (.int .i64 3), (.int .i64 10), (.string (S [85, 83, 68])), (.string (S [56, 52, 48])), (.int .i64 2), (.int .i64 1)]⟩ 104 (0, 0)) r wv →
  R (.slice (some ⟨r, 0, none⟩) 20 20) wv
theorem spec_l08Table_eq (w : World) (R : Value → World → Prop) : spec_l08Table w R = fsem P Tryd.f92 (fun k => []) [] R w := by kernel_rfl
theorem spec_l08Table_ret {w : World} {R : Value → World → Prop} (h : spec_l08Table w R) : Ret P 92 [] w R :=
  Ret.of_fsem Tryd.func92 rfl (Eq.mp (spec_l08Table_eq w R) h)
def spec_l01In (n : Int) (lo : Int) (hi : Int) (w : World) (R : Value → World → Prop) : Prop :=
  ((decide ((lo : Int) ≤ n)) = true →
    R (.bool (decide ((n : Int) ≤ hi))) w) ∧
  ((decide ((lo : Int) ≤ n)) = false →
    R (.bool false) w)
theorem spec_l01In_eq (n : Int) (lo : Int) (hi : Int) (w : World) (R : Value → World → Prop) : spec_l01In n lo hi w R = fsem P Tryd.f93 (fun k => []) [(.int .i64 n), (.int .i64 lo), (.int .i64 hi)] R w := by kernel_rfl
theorem spec_l01In_ret {n : Int} {lo : Int} {hi : Int} {w : World} {R : Value → World → Prop} (h : spec_l01In n lo hi w R) : Ret P 93 [(.int .i64 n), (.int .i64 lo), (.int .i64 hi)] w R :=
  Ret.of_fsem Tryd.func93 rfl (Eq.mp (spec_l01In_eq n lo hi w R) h)
end Go.Proofs.YteakifedfnnmeaaDoor

namespace Go.Proofs.YteakifedfnnmeaaDoor
open Go Go.Proofs.YteakifedfnnmeaaDoor.Sx
set_option linter.unusedVariables false
set_option maxRecDepth 100000
def laws_szBook (a0_p : Option Addr) (a0_n : Nat) (a0_c : Nat) (left : Int) (w : World) (R : Value → World → Prop) : Prop :=
  ∀ (r : Nat) (wv : World), New w (.cells ⟨[(.slice a0_p a0_n a0_c)]⟩ 24 (0, 0)) r wv →
  ∃ (t6_p : Option Addr) (t6_n : Nat) (t6_c : Nat), Loads P 22 ((⟨r, 0, none⟩ : Addr).add 0) (.slice t6_p t6_n t6_c) wv ∧ Calls P 18 ⟨[(.slice t6_p t6_n t6_c), (.int .i64 left)]⟩ wv fun e wv_1 =>
  ∃ (t8 : Int), e = .returned (.int .i64 t8) ∧
  ((decide ((t8 : Int) < 0)) = true →
    R (.int .i64 (-1)) wv_1) ∧
  ((decide ((t8 : Int) < 0)) = false →
    R (.int .i64 t8) wv_1)
theorem laws_szBook_eq (a0_p : Option Addr) (a0_n : Nat) (a0_c : Nat) (left : Int) (w : World) (R : Value → World → Prop) : laws_szBook a0_p a0_n a0_c left w R = fsem P Tryd.f5 (fun k => []) [(.agg #[(.slice a0_p a0_n a0_c)]), (.int .i64 left)] R w := by kernel_rfl
theorem laws_szBook_ret {a0_p : Option Addr} {a0_n : Nat} {a0_c : Nat} {left : Int} {w : World} {R : Value → World → Prop} (h : laws_szBook a0_p a0_n a0_c left w R) : Ret P 5 [(.agg #[(.slice a0_p a0_n a0_c)]), (.int .i64 left)] w R :=
  Ret.of_fsem Tryd.func5 rfl (Eq.mp (laws_szBook_eq a0_p a0_n a0_c left w R) h)
def laws_toBook (a0_p : Option Addr) (a0_n : Nat) (a0_c : Nat) (w : World) (R : Value → World → Prop) : Prop :=
  ∀ (r : Nat) (wv : World), New w (.cells ⟨[(.slice a0_p a0_n a0_c)]⟩ 24 (0, 0)) r wv →
  ∀ (r_1 : Nat) (wv_1 : World), New wv (.cells ⟨[(.slice none 0 0)]⟩ 28 (0, 0)) r_1 wv_1 →
  ∀ (r_2 : Nat) (wv_2 : World), New wv_1 (.cells ⟨[(.slice none 0 0)]⟩ 28 (0, 0)) r_2 wv_2 →
  ∃ (t5_p : Option Addr) (t5_n : Nat) (t5_c : Nat), Loads P 22 ((⟨r, 0, none⟩ : Addr).add 0) (.slice t5_p t5_n t5_c) wv_2 ∧ Calls P 22 ⟨[(.slice t5_p t5_n t5_c)]⟩ wv_2 fun e wv_3 =>
  ∃ (t6_p : Option Addr) (t6_n : Nat) (t6_c : Nat), e = .returned (.slice t6_p t6_n t6_c) ∧
  ∃ wv_4, Stores P 26 ((⟨r_2, 0, none⟩ : Addr).add 0) (.slice t6_p t6_n t6_c) wv_3 wv_4 ∧
  ∃ (t80_p : Option Addr) (t80_n : Nat) (t80_c : Nat), Loads P 28 ⟨r_2, 0, none⟩ (.agg #[(.slice t80_p t80_n t80_c)]) wv_4 ∧ ∃ wv_5, Stores P 28 ⟨r_1, 0, none⟩ (.agg #[(.slice t80_p t80_n t80_c)]) wv_4 wv_5 ∧
  ∃ (r0_p : Option Addr) (r0_n : Nat) (r0_c : Nat), Loads P 28 ⟨r_1, 0, none⟩ (.agg #[(.slice r0_p r0_n r0_c)]) wv_5 ∧ R (.agg #[(.slice r0_p r0_n r0_c)]) wv_5
theorem laws_toBook_eq (a0_p : Option Addr) (a0_n : Nat) (a0_c : Nat) (w : World) (R : Value → World → Prop) : laws_toBook a0_p a0_n a0_c w R = fsem P Tryd.f7 (fun k => []) [(.agg #[(.slice a0_p a0_n a0_c)])] R w := by kernel_rfl
theorem laws_toBook_ret {a0_p : Option Addr} {a0_n : Nat} {a0_c : Nat} {w : World} {R : Value → World → Prop} (h : laws_toBook a0_p a0_n a0_c w R) : Ret P 7 [(.agg #[(.slice a0_p a0_n a0_c)])] w R :=
  Ret.of_fsem Tryd.func7 rfl (Eq.mp (laws_toBook_eq a0_p a0_n a0_c w R) h)
def laws_eqBook (a0_p : Option Addr) (a0_n : Nat) (a0_c : Nat) (b0_p : Option Addr) (b0_n : Nat) (b0_c : Nat) (w : World) (R : Value → World → Prop) : Prop :=
  ∀ (r : Nat) (wv : World), New w (.cells ⟨[(.slice a0_p a0_n a0_c)]⟩ 28 (0, 0)) r wv →
  ∀ (r_1 : Nat) (wv_1 : World), New wv (.cells ⟨[(.slice b0_p b0_n b0_c)]⟩ 28 (0, 0)) r_1 wv_1 →
  ∃ (t6_p : Option Addr) (t6_n : Nat) (t6_c : Nat), Loads P 26 ((⟨r, 0, none⟩ : Addr).add 0) (.slice t6_p t6_n t6_c) wv_1 ∧ ∃ (t8_p : Option Addr) (t8_n : Nat) (t8_c : Nat), Loads P 26 ((⟨r_1, 0, none⟩ : Addr).add 0) (.slice t8_p t8_n t8_c) wv_1 ∧ Calls P 28 ⟨[(.slice t6_p t6_n t6_c), (.slice t8_p t8_n t8_c)]⟩ wv_1 fun e wv_2 =>
  ∃ (t9 : Bool), e = .returned (.bool t9) ∧
  ((!t9) = true →
    R (.bool false) wv_2) ∧
  ((!t9) = false →
    R (.bool true) wv_2)
theorem laws_eqBook_eq (a0_p : Option Addr) (a0_n : Nat) (a0_c : Nat) (b0_p : Option Addr) (b0_n : Nat) (b0_c : Nat) (w : World) (R : Value → World → Prop) : laws_eqBook a0_p a0_n a0_c b0_p b0_n b0_c w R = fsem P Tryd.f9 (fun k => []) [(.agg #[(.slice a0_p a0_n a0_c)]), (.agg #[(.slice b0_p b0_n b0_c)])] R w := by kernel_rfl
theorem laws_eqBook_ret {a0_p : Option Addr} {a0_n : Nat} {a0_c : Nat} {b0_p : Option Addr} {b0_n : Nat} {b0_c : Nat} {w : World} {R : Value → World → Prop} (h : laws_eqBook a0_p a0_n a0_c b0_p b0_n b0_c w R) : Ret P 9 [(.agg #[(.slice a0_p a0_n a0_c)]), (.agg #[(.slice b0_p b0_n b0_c)])] w R :=
  Ret.of_fsem Tryd.func9 rfl (Eq.mp (laws_eqBook_eq a0_p a0_n a0_c b0_p b0_n b0_c w R) h)
def laws_markBook (a0_p : Option Addr) (a0_n : Nat) (a0_c : Nat) (k : Int) (w : World) (R : Value → World → Prop) : Prop :=
  ∀ (r : Nat) (wv : World), New w (.cells ⟨[(.slice a0_p a0_n a0_c)]⟩ 28 (0, 0)) r wv →
  ∃ (t6_p : Option Addr) (t6_n : Nat) (t6_c : Nat), Loads P 26 ((⟨r, 0, none⟩ : Addr).add 0) (.slice t6_p t6_n t6_c) wv ∧ Calls P 29 ⟨[(.slice t6_p t6_n t6_c), (.int .i64 k)]⟩ wv fun e wv_1 =>
  ∃ (t8 : Int), e = .returned (.int .i64 t8) ∧
  R (.int .i64 t8) wv_1
theorem laws_markBook_eq (a0_p : Option Addr) (a0_n : Nat) (a0_c : Nat) (k : Int) (w : World) (R : Value → World → Prop) : laws_markBook a0_p a0_n a0_c k w R = fsem P Tryd.f10 (fun k => []) [(.agg #[(.slice a0_p a0_n a0_c)]), (.int .i64 k)] R w := by kernel_rfl
theorem laws_markBook_ret {a0_p : Option Addr} {a0_n : Nat} {a0_c : Nat} {k : Int} {w : World} {R : Value → World → Prop} (h : laws_markBook a0_p a0_n a0_c k w R) : Ret P 10 [(.agg #[(.slice a0_p a0_n a0_c)]), (.int .i64 k)] w R :=
  Ret.of_fsem Tryd.func10 rfl (Eq.mp (laws_markBook_eq a0_p a0_n a0_c k w R) h)
def laws_heldBook (a0_p : Option Addr) (a0_n : Nat) (a0_c : Nat) (k : Int) (w : World) (R : Value → World → Prop) : Prop :=
  ∀ (r : Nat) (wv : World), New w (.cells ⟨[(.slice a0_p a0_n a0_c)]⟩ 28 (0, 0)) r wv →
  ∃ (t6_p : Option Addr) (t6_n : Nat) (t6_c : Nat), Loads P 26 ((⟨r, 0, none⟩ : Addr).add 0) (.slice t6_p t6_n t6_c) wv ∧ Calls P 30 ⟨[(.slice t6_p t6_n t6_c), (.int .i64 k)]⟩ wv fun e wv_1 =>
  ∃ (t8 : Int), e = .returned (.int .i64 t8) ∧
  ((decide ((t8 : Int) < 0)) = true →
    R (.int .i64 (-1)) wv_1) ∧
  ((decide ((t8 : Int) < 0)) = false →
    R (.int .i64 t8) wv_1)
theorem laws_heldBook_eq (a0_p : Option Addr) (a0_n : Nat) (a0_c : Nat) (k : Int) (w : World) (R : Value → World → Prop) : laws_heldBook a0_p a0_n a0_c k w R = fsem P Tryd.f11 (fun k => []) [(.agg #[(.slice a0_p a0_n a0_c)]), (.int .i64 k)] R w := by kernel_rfl
theorem laws_heldBook_ret {a0_p : Option Addr} {a0_n : Nat} {a0_c : Nat} {k : Int} {w : World} {R : Value → World → Prop} (h : laws_heldBook a0_p a0_n a0_c k w R) : Ret P 11 [(.agg #[(.slice a0_p a0_n a0_c)]), (.int .i64 k)] w R :=
  Ret.of_fsem Tryd.func11 rfl (Eq.mp (laws_heldBook_eq a0_p a0_n a0_c k w R) h)
def laws_szMoney (a0 : ByteArray) (a1 : Bool) (a2_p : Option Addr) (a2_n : Nat) (a2_c : Nat) (left : Int) (w : World) (R : Value → World → Prop) : Prop :=
  ∀ (r : Nat) (wv : World), New w (.cells ⟨[(.string a0), (.bool a1), (.slice a2_p a2_n a2_c)]⟩ 39 (0, 0)) r wv →
  ∃ (t7 : ByteArray), Loads P 9 ((⟨r, 0, none⟩ : Addr).add 0) (.string t7) wv ∧ ∃ t9 : Int, t9 = IntKind.wrap .i64 (left - ((t7.size : Nat) : Int)) ∧ ((decide ((t9 : Int) < 0)) = true →
    R (.int .i64 (-1)) wv) ∧
  ((decide ((t9 : Int) < 0)) = false →
    ∃ (t130 : Bool) (t131_p : Option Addr) (t131_n : Nat) (t131_c : Nat), Loads P 37 ((⟨r, 0, none⟩ : Addr).add 1) (.agg #[(.bool t130), (.slice t131_p t131_n t131_c)]) wv ∧ Calls P 31 ⟨[(.agg #[(.bool t130), (.slice t131_p t131_n t131_c)]), (.int .i64 t9)]⟩ wv fun e wv_1 =>
    ∃ (t15 : Int), e = .returned (.int .i64 t15) ∧
    ((decide ((t15 : Int) < 0)) = true →
      R (.int .i64 (-1)) wv_1) ∧
    ((decide ((t15 : Int) < 0)) = false →
      R (.int .i64 t15) wv_1))
theorem laws_szMoney_eq (a0 : ByteArray) (a1 : Bool) (a2_p : Option Addr) (a2_n : Nat) (a2_c : Nat) (left : Int) (w : World) (R : Value → World → Prop) : laws_szMoney a0 a1 a2_p a2_n a2_c left w R = fsem P Tryd.f12 (fun k => []) [(.agg #[(.string a0), (.bool a1), (.slice a2_p a2_n a2_c)]), (.int .i64 left)] R w := by kernel_rfl
theorem laws_szMoney_ret {a0 : ByteArray} {a1 : Bool} {a2_p : Option Addr} {a2_n : Nat} {a2_c : Nat} {left : Int} {w : World} {R : Value → World → Prop} (h : laws_szMoney a0 a1 a2_p a2_n a2_c left w R) : Ret P 12 [(.agg #[(.string a0), (.bool a1), (.slice a2_p a2_n a2_c)]), (.int .i64 left)] w R :=
  Ret.of_fsem Tryd.func12 rfl (Eq.mp (laws_szMoney_eq a0 a1 a2_p a2_n a2_c left w R) h)
def laws_toMoney (a0 : ByteArray) (a1 : Bool) (a2_p : Option Addr) (a2_n : Nat) (a2_c : Nat) (w : World) (R : Value → World → Prop) : Prop :=
  ∀ (r : Nat) (wv : World), New w (.cells ⟨[(.string a0), (.bool a1), (.slice a2_p a2_n a2_c)]⟩ 39 (0, 0)) r wv →
  ∀ (r_1 : Nat) (wv_1 : World), New wv (.cells ⟨[(.string ByteArray.empty), (.bool false), (.slice none 0 0)]⟩ 44 (0, 0)) r_1 wv_1 →
  ∀ (r_2 : Nat) (wv_2 : World), New wv_1 (.cells ⟨[(.string ByteArray.empty), (.bool false), (.slice none 0 0)]⟩ 44 (0, 0)) r_2 wv_2 →
  ∃ (t5 : ByteArray), Loads P 9 ((⟨r, 0, none⟩ : Addr).add 0) (.string t5) wv_2 ∧ ∃ wv_3, Stores P 9 ((⟨r_2, 0, none⟩ : Addr).add 0) (.string t5) wv_2 wv_3 ∧
  ∃ (t80 : Bool) (t81_p : Option Addr) (t81_n : Nat) (t81_c : Nat), Loads P 37 ((⟨r, 0, none⟩ : Addr).add 1) (.agg #[(.bool t80), (.slice t81_p t81_n t81_c)]) wv_3 ∧ Calls P 33 ⟨[(.agg #[(.bool t80), (.slice t81_p t81_n t81_c)])]⟩ wv_3 fun e wv_4 =>
  ∃ (t90 : Bool) (t91_p : Option Addr) (t91_n : Nat) (t91_c : Nat), e = .returned (.agg #[(.bool t90), (.slice t91_p t91_n t91_c)]) ∧
  ∃ wv_5, Stores P 42 ((⟨r_2, 0, none⟩ : Addr).add 1) (.agg #[(.bool t90), (.slice t91_p t91_n t91_c)]) wv_4 wv_5 ∧
  ∃ (t110 : ByteArray) (t111 : Bool) (t112_p : Option Addr) (t112_n : Nat) (t112_c : Nat), Loads P 44 ⟨r_2, 0, none⟩ (.agg #[(.string t110), (.bool t111), (.slice t112_p t112_n t112_c)]) wv_5 ∧ ∃ wv_6, Stores P 44 ⟨r_1, 0, none⟩ (.agg #[(.string t110), (.bool t111), (.slice t112_p t112_n t112_c)]) wv_5 wv_6 ∧
  ∃ (r0 : ByteArray) (r1 : Bool) (r2_p : Option Addr) (r2_n : Nat) (r2_c : Nat), Loads P 44 ⟨r_1, 0, none⟩ (.agg #[(.string r0), (.bool r1), (.slice r2_p r2_n r2_c)]) wv_6 ∧ R (.agg #[(.string r0), (.bool r1), (.slice r2_p r2_n r2_c)]) wv_6
theorem laws_toMoney_eq (a0 : ByteArray) (a1 : Bool) (a2_p : Option Addr) (a2_n : Nat) (a2_c : Nat) (w : World) (R : Value → World → Prop) : laws_toMoney a0 a1 a2_p a2_n a2_c w R = fsem P Tryd.f14 (fun k => []) [(.agg #[(.string a0), (.bool a1), (.slice a2_p a2_n a2_c)])] R w := by kernel_rfl
theorem laws_toMoney_ret {a0 : ByteArray} {a1 : Bool} {a2_p : Option Addr} {a2_n : Nat} {a2_c : Nat} {w : World} {R : Value → World → Prop} (h : laws_toMoney a0 a1 a2_p a2_n a2_c w R) : Ret P 14 [(.agg #[(.string a0), (.bool a1), (.slice a2_p a2_n a2_c)])] w R :=
  Ret.of_fsem Tryd.func14 rfl (Eq.mp (laws_toMoney_eq a0 a1 a2_p a2_n a2_c w R) h)
def laws_eqMoney (a0 : ByteArray) (a1 : Bool) (a2_p : Option Addr) (a2_n : Nat) (a2_c : Nat) (b0 : ByteArray) (b1 : Bool) (b2_p : Option Addr) (b2_n : Nat) (b2_c : Nat) (w : World) (R : Value → World → Prop) : Prop :=
  ∀ (r : Nat) (wv : World), New w (.cells ⟨[(.string a0), (.bool a1), (.slice a2_p a2_n a2_c)]⟩ 44 (0, 0)) r wv →
  ∀ (r_1 : Nat) (wv_1 : World), New wv (.cells ⟨[(.string b0), (.bool b1), (.slice b2_p b2_n b2_c)]⟩ 44 (0, 0)) r_1 wv_1 →
  ∃ (t6 : ByteArray), Loads P 9 ((⟨r, 0, none⟩ : Addr).add 0) (.string t6) wv_1 ∧ ∃ (t8 : ByteArray), Loads P 9 ((⟨r_1, 0, none⟩ : Addr).add 0) (.string t8) wv_1 ∧ ((decide (t6 ≠ t8)) = true →
    R (.bool false) wv_1) ∧
  ((decide (t6 ≠ t8)) = false →
    ∃ (t110 : Bool) (t111_p : Option Addr) (t111_n : Nat) (t111_c : Nat), Loads P 42 ((⟨r, 0, none⟩ : Addr).add 1) (.agg #[(.bool t110), (.slice t111_p t111_n t111_c)]) wv_1 ∧ ∃ (t130 : Bool) (t131_p : Option Addr) (t131_n : Nat) (t131_c : Nat), Loads P 42 ((⟨r_1, 0, none⟩ : Addr).add 1) (.agg #[(.bool t130), (.slice t131_p t131_n t131_c)]) wv_1 ∧ Calls P 36 ⟨[(.agg #[(.bool t110), (.slice t111_p t111_n t111_c)]), (.agg #[(.bool t130), (.slice t131_p t131_n t131_c)])]⟩ wv_1 fun e wv_2 =>
    ∃ (t14 : Bool), e = .returned (.bool t14) ∧
    ((!t14) = true →
      R (.bool false) wv_2) ∧
    ((!t14) = false →
      R (.bool true) wv_2))
theorem laws_eqMoney_eq (a0 : ByteArray) (a1 : Bool) (a2_p : Option Addr) (a2_n : Nat) (a2_c : Nat) (b0 : ByteArray) (b1 : Bool) (b2_p : Option Addr) (b2_n : Nat) (b2_c : Nat) (w : World) (R : Value → World → Prop) : laws_eqMoney a0 a1 a2_p a2_n a2_c b0 b1 b2_p b2_n b2_c w R = fsem P Tryd.f16 (fun k => []) [(.agg #[(.string a0), (.bool a1), (.slice a2_p a2_n a2_c)]), (.agg #[(.string b0), (.bool b1), (.slice b2_p b2_n b2_c)])] R w := by kernel_rfl
theorem laws_eqMoney_ret {a0 : ByteArray} {a1 : Bool} {a2_p : Option Addr} {a2_n : Nat} {a2_c : Nat} {b0 : ByteArray} {b1 : Bool} {b2_p : Option Addr} {b2_n : Nat} {b2_c : Nat} {w : World} {R : Value → World → Prop} (h : laws_eqMoney a0 a1 a2_p a2_n a2_c b0 b1 b2_p b2_n b2_c w R) : Ret P 16 [(.agg #[(.string a0), (.bool a1), (.slice a2_p a2_n a2_c)]), (.agg #[(.string b0), (.bool b1), (.slice b2_p b2_n b2_c)])] w R :=
  Ret.of_fsem Tryd.func16 rfl (Eq.mp (laws_eqMoney_eq a0 a1 a2_p a2_n a2_c b0 b1 b2_p b2_n b2_c w R) h)
def laws_szAcctS (a_p : Option Addr) (a_n : Nat) (a_c : Nat) (left : Int) (w : World) (R : Value → World → Prop) : Prop :=
  ∃ t9 : Int, t9 = IntKind.wrap .i64 (left - ((a_n : Nat) : Int)) ∧ ((decide ((t9 : Int) < 0)) = true →
    R (.int .i64 (-1)) w) ∧
  ((decide ((t9 : Int) < 0)) = false →
    ∃ (Inv : Int → Int → World → Prop) (mu : Int → Int → World → Nat), Inv t9 0 w ∧
    ∀ (junk : Fr) (wv : World) (left_1 : Int) (i : Int), Inv left_1 i wv →
      ((decide ((i : Int) < ((a_n : Nat) : Int))) = true →
        (0 ≤ (i : Int) ∧ (i : Int) < (a_n : Nat)) ∧ ptrS a_p fun ad => ∃ (t210 : ByteArray) (t211 : ByteArray) (t212 : Bool) (t213_p : Option Addr) (t213_n : Nat) (t213_c : Nat), Loads P 70 (ad.add (i.toNat * 4)) (.agg #[(.string t210), (.string t211), (.bool t212), (.slice t213_p t213_n t213_c)]) wv ∧ Calls P 38 ⟨[(.agg #[(.string t210), (.string t211), (.bool t212), (.slice t213_p t213_n t213_c)]), (.int .i64 left_1)]⟩ wv fun e wv_1 =>
        ∃ (t23 : Int), e = .returned (.int .i64 t23) ∧
        ((decide ((t23 : Int) < 0)) = true →
          R (.int .i64 (-1)) wv_1) ∧
        ((decide ((t23 : Int) < 0)) = false →
          ∃ t17 : Int, t17 = IntKind.wrap .i64 (i + 1) ∧ Inv t23 t17 wv_1 ∧ mu t23 t17 wv_1 < mu left_1 i wv)) ∧
      ((decide ((i : Int) < ((a_n : Nat) : Int))) = false →
        R (.int .i64 left_1) wv))
theorem laws_szAcctS_eq (a_p : Option Addr) (a_n : Nat) (a_c : Nat) (left : Int) (w : World) (R : Value → World → Prop) : laws_szAcctS a_p a_n a_c left w R = fsem P Tryd.f18 (fun k => cond (Nat.beq k 6) [(1, .one (.int .i64)), (5, .one (.int .i64))] ([])) [(.slice a_p a_n a_c), (.int .i64 left)] R w := by kernel_rfl
theorem laws_szAcctS_ret {a_p : Option Addr} {a_n : Nat} {a_c : Nat} {left : Int} {w : World} {R : Value → World → Prop} (h : laws_szAcctS a_p a_n a_c left w R) : Ret P 18 [(.slice a_p a_n a_c), (.int .i64 left)] w R :=
  Ret.of_fsem Tryd.func18 rfl (Eq.mp (laws_szAcctS_eq a_p a_n a_c left w R) h)
def laws_toAcctS (a_p : Option Addr) (a_n : Nat) (a_c : Nat) (w : World) (R : Value → World → Prop) : Prop :=
  (0 ≤ (((a_n : Nat) : Int) : Int) ∧ (((a_n : Nat) : Int) : Int) ≤ ((a_n : Nat) : Int) ∧ ((64 : Nat) : Int) * ((a_n : Nat) : Int) ≤ 281474976710656) ∧
  ∀ (r : Nat) (wv : World), New w (.cells ⟨zeroRow (.agg #[(.string ByteArray.empty), (.string ByteArray.empty), (.bool false), (.slice none 0 0)]) (a_n * 4)⟩ 54 (0, 0)) r wv →
  ∃ (Inv : Int → World → Prop) (mu : Int → World → Nat), Inv 0 wv ∧
  ∀ (junk : Fr) (wv_1 : World) (i : Int), Inv i wv_1 →
    ((decide ((i : Int) < ((a_n : Nat) : Int))) = true →
      (0 ≤ (i : Int) ∧ (i : Int) < (a_n : Nat)) ∧ ptrS a_p fun ad => ∃ (t190 : ByteArray) (t191 : ByteArray) (t192 : Bool) (t193_p : Option Addr) (t193_n : Nat) (t193_c : Nat), Loads P 70 (ad.add (i.toNat * 4)) (.agg #[(.string t190), (.string t191), (.bool t192), (.slice t193_p t193_n t193_c)]) wv_1 ∧ Calls P 42 ⟨[(.agg #[(.string t190), (.string t191), (.bool t192), (.slice t193_p t193_n t193_c)])]⟩ wv_1 fun e wv_2 =>
      ∃ (t200 : ByteArray) (t201 : ByteArray) (t202 : Bool) (t203_p : Option Addr) (t203_n : Nat) (t203_c : Nat), e = .returned (.agg #[(.string t200), (.string t201), (.bool t202), (.slice t203_p t203_n t203_c)]) ∧
      (0 ≤ (i : Int) ∧ (i : Int) < (a_n : Nat)) ∧ ∃ wv_3, Stores P 54 ((⟨r, 0, none⟩ : Addr).add (i.toNat * 4)) (.agg #[(.string t200), (.string t201), (.bool t202), (.slice t203_p t203_n t203_c)]) wv_2 wv_3 ∧
      ∃ t13 : Int, t13 = IntKind.wrap .i64 (i + 1) ∧ Inv t13 wv_3 ∧ mu t13 wv_3 < mu i wv_1) ∧
    ((decide ((i : Int) < ((a_n : Nat) : Int))) = false →
      R (.slice (some ⟨r, 0, none⟩) a_n a_n) wv_1)
theorem laws_toAcctS_eq (a_p : Option Addr) (a_n : Nat) (a_c : Nat) (w : World) (R : Value → World → Prop) : laws_toAcctS a_p a_n a_c w R = fsem P Tryd.f22 (fun k => cond (Nat.beq k 4) [(4, .one (.int .i64))] ([])) [(.slice a_p a_n a_c)] R w := by kernel_rfl
theorem laws_toAcctS_ret {a_p : Option Addr} {a_n : Nat} {a_c : Nat} {w : World} {R : Value → World → Prop} (h : laws_toAcctS a_p a_n a_c w R) : Ret P 22 [(.slice a_p a_n a_c)] w R :=
  Ret.of_fsem Tryd.func22 rfl (Eq.mp (laws_toAcctS_eq a_p a_n a_c w R) h)
def laws_eqAcctS (a_p : Option Addr) (a_n : Nat) (a_c : Nat) (b_p : Option Addr) (b_n : Nat) (b_c : Nat) (w : World) (R : Value → World → Prop) : Prop :=
  ((decide ((((a_n : Nat) : Int) : Int) ≠ ((b_n : Nat) : Int))) = true →
    R (.bool false) w) ∧
  ((decide ((((a_n : Nat) : Int) : Int) ≠ ((b_n : Nat) : Int))) = false →
    ∃ (Inv : Int → World → Prop) (mu : Int → World → Nat), Inv 0 w ∧
    ∀ (junk : Fr) (wv : World) (i : Int), Inv i wv →
      ((decide ((i : Int) < ((a_n : Nat) : Int))) = true →
        (0 ≤ (i : Int) ∧ (i : Int) < (a_n : Nat)) ∧ ptrS a_p fun ad => ∃ (t200 : ByteArray) (t201 : ByteArray) (t202 : Bool) (t203_p : Option Addr) (t203_n : Nat) (t203_c : Nat), (∀ wv_1, Ext wv.drew wv_1 → Loads P 54 (ad.add (i.toNat * 4)) (.agg #[(.string t200), (.string t201), (.bool t202), (.slice t203_p t203_n t203_c)]) wv_1) ∧ (0 ≤ (i : Int) ∧ (i : Int) < (b_n : Nat)) ∧ ptrS b_p fun ad_1 => ∃ (t240 : ByteArray) (t241 : ByteArray) (t242 : Bool) (t243_p : Option Addr) (t243_n : Nat) (t243_c : Nat), (∀ wv_2, Ext wv.drew wv_2 → Loads P 54 (ad_1.add (i.toNat * 4)) (.agg #[(.string t240), (.string t241), (.bool t242), (.slice t243_p t243_n t243_c)]) wv_2) ∧ Calls P 51 ⟨[(.agg #[(.string t200), (.string t201), (.bool t202), (.slice t203_p t203_n t203_c)]), (.agg #[(.string t240), (.string t241), (.bool t242), (.slice t243_p t243_n t243_c)])]⟩ wv.drew fun e wv_3 =>
        ∃ (t25 : Bool), e = .returned (.bool t25) ∧
        ((!t25) = true →
          R (.bool false) wv_3) ∧
        ((!t25) = false →
          ∃ t16 : Int, t16 = IntKind.wrap .i64 (i + 1) ∧ Inv t16 wv_3 ∧ mu t16 wv_3 < mu i wv)) ∧
      ((decide ((i : Int) < ((a_n : Nat) : Int))) = false →
        R (.bool true) wv))
theorem laws_eqAcctS_eq (a_p : Option Addr) (a_n : Nat) (a_c : Nat) (b_p : Option Addr) (b_n : Nat) (b_c : Nat) (w : World) (R : Value → World → Prop) : laws_eqAcctS a_p a_n a_c b_p b_n b_c w R = fsem P Tryd.f28 (fun k => cond (Nat.beq k 5) [(5, .one (.int .i64))] ([])) [(.slice a_p a_n a_c), (.slice b_p b_n b_c)] R w := by kernel_rfl
theorem laws_eqAcctS_ret {a_p : Option Addr} {a_n : Nat} {a_c : Nat} {b_p : Option Addr} {b_n : Nat} {b_c : Nat} {w : World} {R : Value → World → Prop} (h : laws_eqAcctS a_p a_n a_c b_p b_n b_c w R) : Ret P 28 [(.slice a_p a_n a_c), (.slice b_p b_n b_c)] w R :=
  Ret.of_fsem Tryd.func28 rfl (Eq.mp (laws_eqAcctS_eq a_p a_n a_c b_p b_n b_c w R) h)
def laws_markAcctS (a_p : Option Addr) (a_n : Nat) (a_c : Nat) (k : Int) (w : World) (R : Value → World → Prop) : Prop :=
  ∃ (Inv : Int → Int → World → Prop) (mu : Int → Int → World → Nat), Inv k 0 w ∧
  ∀ (junk : Fr) (wv : World) (k_1 : Int) (i : Int), Inv k_1 i wv →
    ((decide ((i : Int) < ((a_n : Nat) : Int))) = true →
      Calls P 52 ⟨[(.int .i64 k_1)]⟩ wv fun e wv_1 =>
      ∃ (t15 : ByteArray), e = .returned (.string t15) ∧
      (0 ≤ (i : Int) ∧ (i : Int) < (a_n : Nat)) ∧ ptrS a_p fun ad => ∃ wv_2, Stores P 9 ((ad.add (i.toNat * 4)).add 0) (.string t15) wv_1 wv_2 ∧
      ∃ t19 : Int, t19 = IntKind.wrap .i64 (k_1 + 1) ∧ Calls P 52 ⟨[(.int .i64 t19)]⟩ wv_2 fun e_1 wv_3 =>
      ∃ (t23 : ByteArray), e_1 = .returned (.string t23) ∧
      (0 ≤ (i : Int) ∧ (i : Int) < (a_n : Nat)) ∧ ptrS a_p fun ad_1 => ∃ wv_4, Stores P 9 (((ad_1.add (i.toNat * 4)).add 1).add 0) (.string t23) wv_3 wv_4 ∧
      ∃ t28 : Int, t28 = IntKind.wrap .i64 (t19 + 1) ∧ (3 : Int) ≠ 0 ∧ ∃ t32 : Int, t32 = Int.tmod t28 3 ∧ (0 ≤ (i : Int) ∧ (i : Int) < (a_n : Nat)) ∧ ptrS a_p fun ad_2 => ∃ wv_5, Stores P 4 ((((ad_2.add (i.toNat * 4)).add 1).add 1).add 0) (.bool (decide ((t32 : Int) = 0))) wv_4 wv_5 ∧
      ∃ t39 : Int, t39 = IntKind.wrap .i64 (t28 + 1) ∧ (0 ≤ (i : Int) ∧ (i : Int) < (a_n : Nat)) ∧ ptrS a_p fun ad_3 => ∃ (t46_p : Option Addr) (t46_n : Nat) (t46_c : Nat), Loads P 35 ((((ad_3.add (i.toNat * 4)).add 1).add 1).add 1) (.slice t46_p t46_n t46_c) wv_5 ∧ Calls P 53 ⟨[(.slice t46_p t46_n t46_c), (.int .i64 t39)]⟩ wv_5 fun e_2 wv_6 =>
      ∃ (t48 : Int), e_2 = .returned (.int .i64 t48) ∧
      ∃ t11 : Int, t11 = IntKind.wrap .i64 (i + 1) ∧ Inv t48 t11 wv_6 ∧ mu t48 t11 wv_6 < mu k_1 i wv) ∧
    ((decide ((i : Int) < ((a_n : Nat) : Int))) = false →
      R (.int .i64 k_1) wv)
theorem laws_markAcctS_eq (a_p : Option Addr) (a_n : Nat) (a_c : Nat) (k : Int) (w : World) (R : Value → World → Prop) : laws_markAcctS a_p a_n a_c k w R = fsem P Tryd.f29 (fun k => cond (Nat.beq k 3) [(1, .one (.int .i64)), (5, .one (.int .i64))] ([])) [(.slice a_p a_n a_c), (.int .i64 k)] R w := by kernel_rfl
theorem laws_markAcctS_ret {a_p : Option Addr} {a_n : Nat} {a_c : Nat} {k : Int} {w : World} {R : Value → World → Prop} (h : laws_markAcctS a_p a_n a_c k w R) : Ret P 29 [(.slice a_p a_n a_c), (.int .i64 k)] w R :=
  Ret.of_fsem Tryd.func29 rfl (Eq.mp (laws_markAcctS_eq a_p a_n a_c k w R) h)
def laws_heldAcctS (a_p : Option Addr) (a_n : Nat) (a_c : Nat) (k : Int) (w : World) (R : Value → World → Prop) : Prop :=
  ∃ (Inv : Int → Int → World → Prop) (mu : Int → Int → World → Nat), Inv k 0 w ∧
  ∀ (junk : Fr) (wv : World) (k_1 : Int) (i : Int), Inv k_1 i wv →
    ((decide ((i : Int) < ((a_n : Nat) : Int))) = true →
      (0 ≤ (i : Int) ∧ (i : Int) < (a_n : Nat)) ∧ ptrS a_p fun ad => ∃ (t16 : ByteArray), (∀ wv_1, Ext wv.drew wv_1 → Loads P 9 ((ad.add (i.toNat * 4)).add 0) (.string t16) wv_1) ∧ Calls P 52 ⟨[(.int .i64 k_1)]⟩ wv.drew fun e wv_2 =>
      ∃ (t18 : ByteArray), e = .returned (.string t18) ∧
      Ext wv.drew wv_2 ∧ ((decide (t16 ≠ t18)) = true →
        R (.int .i64 (-1)) wv_2) ∧
      ((decide (t16 ≠ t18)) = false →
        ∃ t21 : Int, t21 = IntKind.wrap .i64 (k_1 + 1) ∧ (0 ≤ (i : Int) ∧ (i : Int) < (a_n : Nat)) ∧ ptrS a_p fun ad_1 => ∃ (t27 : ByteArray), (∀ wv_3, Ext wv_2.drew wv_3 → Loads P 9 (((ad_1.add (i.toNat * 4)).add 1).add 0) (.string t27) wv_3) ∧ Calls P 52 ⟨[(.int .i64 t21)]⟩ wv_2.drew fun e_1 wv_4 =>
        ∃ (t29 : ByteArray), e_1 = .returned (.string t29) ∧
        Ext wv_2.drew wv_4 ∧ ((decide (t27 ≠ t29)) = true →
          R (.int .i64 (-1)) wv_4) ∧
        ((decide (t27 ≠ t29)) = false →
          ∃ t32 : Int, t32 = IntKind.wrap .i64 (t21 + 1) ∧ (0 ≤ (i : Int) ∧ (i : Int) < (a_n : Nat)) ∧ ptrS a_p fun ad_2 => ∃ (t39 : Bool), Loads P 4 ((((ad_2.add (i.toNat * 4)).add 1).add 1).add 0) (.bool t39) wv_4 ∧ (3 : Int) ≠ 0 ∧ ∃ t41 : Int, t41 = Int.tmod t32 3 ∧ ((!(t39 == (decide ((t41 : Int) = 0)))) = true →
            R (.int .i64 (-1)) wv_4) ∧
          ((!(t39 == (decide ((t41 : Int) = 0)))) = false →
            ∃ t45 : Int, t45 = IntKind.wrap .i64 (t32 + 1) ∧ (0 ≤ (i : Int) ∧ (i : Int) < (a_n : Nat)) ∧ ptrS a_p fun ad_3 => ∃ (t52_p : Option Addr) (t52_n : Nat) (t52_c : Nat), Loads P 35 ((((ad_3.add (i.toNat * 4)).add 1).add 1).add 1) (.slice t52_p t52_n t52_c) wv_4 ∧ Calls P 54 ⟨[(.slice t52_p t52_n t52_c), (.int .i64 t45)]⟩ wv_4 fun e_2 wv_5 =>
            ∃ (t54 : Int), e_2 = .returned (.int .i64 t54) ∧
            ((decide ((t54 : Int) < 0)) = true →
              R (.int .i64 (-1)) wv_5) ∧
            ((decide ((t54 : Int) < 0)) = false →
              ∃ t11 : Int, t11 = IntKind.wrap .i64 (i + 1) ∧ Inv t54 t11 wv_5 ∧ mu t54 t11 wv_5 < mu k_1 i wv))))) ∧
    ((decide ((i : Int) < ((a_n : Nat) : Int))) = false →
      R (.int .i64 k_1) wv)
theorem laws_heldAcctS_eq (a_p : Option Addr) (a_n : Nat) (a_c : Nat) (k : Int) (w : World) (R : Value → World → Prop) : laws_heldAcctS a_p a_n a_c k w R = fsem P Tryd.f30 (fun k => cond (Nat.beq k 3) [(1, .one (.int .i64)), (5, .one (.int .i64))] ([])) [(.slice a_p a_n a_c), (.int .i64 k)] R w := by kernel_rfl
theorem laws_heldAcctS_ret {a_p : Option Addr} {a_n : Nat} {a_c : Nat} {k : Int} {w : World} {R : Value → World → Prop} (h : laws_heldAcctS a_p a_n a_c k w R) : Ret P 30 [(.slice a_p a_n a_c), (.int .i64 k)] w R :=
  Ret.of_fsem Tryd.func30 rfl (Eq.mp (laws_heldAcctS_eq a_p a_n a_c k w R) h)
def laws_szSigned (a0 : Bool) (a1_p : Option Addr) (a1_n : Nat) (a1_c : Nat) (left : Int) (w : World) (R : Value → World → Prop) : Prop :=
  ∀ (r : Nat) (wv : World), New w (.cells ⟨[(.bool a0), (.slice a1_p a1_n a1_c)]⟩ 37 (0, 0)) r wv →
  ∃ (t6_p : Option Addr) (t6_n : Nat) (t6_c : Nat), Loads P 35 ((⟨r, 0, none⟩ : Addr).add 1) (.slice t6_p t6_n t6_c) wv ∧ Calls P 55 ⟨[(.slice t6_p t6_n t6_c), (.int .i64 left)]⟩ wv fun e wv_1 =>
  ∃ (t8 : Int), e = .returned (.int .i64 t8) ∧
  ((decide ((t8 : Int) < 0)) = true →
    R (.int .i64 (-1)) wv_1) ∧
  ((decide ((t8 : Int) < 0)) = false →
    R (.int .i64 t8) wv_1)
theorem laws_szSigned_eq (a0 : Bool) (a1_p : Option Addr) (a1_n : Nat) (a1_c : Nat) (left : Int) (w : World) (R : Value → World → Prop) : laws_szSigned a0 a1_p a1_n a1_c left w R = fsem P Tryd.f31 (fun k => []) [(.agg #[(.bool a0), (.slice a1_p a1_n a1_c)]), (.int .i64 left)] R w := by kernel_rfl
theorem laws_szSigned_ret {a0 : Bool} {a1_p : Option Addr} {a1_n : Nat} {a1_c : Nat} {left : Int} {w : World} {R : Value → World → Prop} (h : laws_szSigned a0 a1_p a1_n a1_c left w R) : Ret P 31 [(.agg #[(.bool a0), (.slice a1_p a1_n a1_c)]), (.int .i64 left)] w R :=
  Ret.of_fsem Tryd.func31 rfl (Eq.mp (laws_szSigned_eq a0 a1_p a1_n a1_c left w R) h)
def laws_toSigned (a0 : Bool) (a1_p : Option Addr) (a1_n : Nat) (a1_c : Nat) (w : World) (R : Value → World → Prop) : Prop :=
  ∀ (r : Nat) (wv : World), New w (.cells ⟨[(.bool a0), (.slice a1_p a1_n a1_c)]⟩ 37 (0, 0)) r wv →
  ∀ (r_1 : Nat) (wv_1 : World), New wv (.cells ⟨[(.bool false), (.slice none 0 0)]⟩ 42 (0, 0)) r_1 wv_1 →
  ∀ (r_2 : Nat) (wv_2 : World), New wv_1 (.cells ⟨[(.bool false), (.slice none 0 0)]⟩ 42 (0, 0)) r_2 wv_2 →
  ∃ (t5 : Bool), Loads P 4 ((⟨r, 0, none⟩ : Addr).add 0) (.bool t5) wv_2 ∧ ∃ wv_3, Stores P 4 ((⟨r_2, 0, none⟩ : Addr).add 0) (.bool t5) wv_2 wv_3 ∧
  ∃ (t8_p : Option Addr) (t8_n : Nat) (t8_c : Nat), Loads P 35 ((⟨r, 0, none⟩ : Addr).add 1) (.slice t8_p t8_n t8_c) wv_3 ∧ Calls P 59 ⟨[(.slice t8_p t8_n t8_c)]⟩ wv_3 fun e wv_4 =>
  ∃ (t9_p : Option Addr) (t9_n : Nat) (t9_c : Nat), e = .returned (.slice t9_p t9_n t9_c) ∧
  ∃ wv_5, Stores P 35 ((⟨r_2, 0, none⟩ : Addr).add 1) (.slice t9_p t9_n t9_c) wv_4 wv_5 ∧
  ∃ (t110 : Bool) (t111_p : Option Addr) (t111_n : Nat) (t111_c : Nat), Loads P 42 ⟨r_2, 0, none⟩ (.agg #[(.bool t110), (.slice t111_p t111_n t111_c)]) wv_5 ∧ ∃ wv_6, Stores P 42 ⟨r_1, 0, none⟩ (.agg #[(.bool t110), (.slice t111_p t111_n t111_c)]) wv_5 wv_6 ∧
  ∃ (r0 : Bool) (r1_p : Option Addr) (r1_n : Nat) (r1_c : Nat), Loads P 42 ⟨r_1, 0, none⟩ (.agg #[(.bool r0), (.slice r1_p r1_n r1_c)]) wv_6 ∧ R (.agg #[(.bool r0), (.slice r1_p r1_n r1_c)]) wv_6
theorem laws_toSigned_eq (a0 : Bool) (a1_p : Option Addr) (a1_n : Nat) (a1_c : Nat) (w : World) (R : Value → World → Prop) : laws_toSigned a0 a1_p a1_n a1_c w R = fsem P Tryd.f33 (fun k => []) [(.agg #[(.bool a0), (.slice a1_p a1_n a1_c)])] R w := by kernel_rfl
theorem laws_toSigned_ret {a0 : Bool} {a1_p : Option Addr} {a1_n : Nat} {a1_c : Nat} {w : World} {R : Value → World → Prop} (h : laws_toSigned a0 a1_p a1_n a1_c w R) : Ret P 33 [(.agg #[(.bool a0), (.slice a1_p a1_n a1_c)])] w R :=
  Ret.of_fsem Tryd.func33 rfl (Eq.mp (laws_toSigned_eq a0 a1_p a1_n a1_c w R) h)
def laws_eqSigned (a0 : Bool) (a1_p : Option Addr) (a1_n : Nat) (a1_c : Nat) (b0 : Bool) (b1_p : Option Addr) (b1_n : Nat) (b1_c : Nat) (w : World) (R : Value → World → Prop) : Prop :=
  ∀ (r : Nat) (wv : World), New w (.cells ⟨[(.bool a0), (.slice a1_p a1_n a1_c)]⟩ 42 (0, 0)) r wv →
  ∀ (r_1 : Nat) (wv_1 : World), New wv (.cells ⟨[(.bool b0), (.slice b1_p b1_n b1_c)]⟩ 42 (0, 0)) r_1 wv_1 →
  ∃ (t6 : Bool), Loads P 4 ((⟨r, 0, none⟩ : Addr).add 0) (.bool t6) wv_1 ∧ ∃ (t8 : Bool), Loads P 4 ((⟨r_1, 0, none⟩ : Addr).add 0) (.bool t8) wv_1 ∧ ((!(t6 == t8)) = true →
    R (.bool false) wv_1) ∧
  ((!(t6 == t8)) = false →
    ∃ (t11_p : Option Addr) (t11_n : Nat) (t11_c : Nat), Loads P 35 ((⟨r, 0, none⟩ : Addr).add 1) (.slice t11_p t11_n t11_c) wv_1 ∧ ∃ (t13_p : Option Addr) (t13_n : Nat) (t13_c : Nat), Loads P 35 ((⟨r_1, 0, none⟩ : Addr).add 1) (.slice t13_p t13_n t13_c) wv_1 ∧ Calls P 63 ⟨[(.slice t11_p t11_n t11_c), (.slice t13_p t13_n t13_c)]⟩ wv_1 fun e wv_2 =>
    ∃ (t14 : Bool), e = .returned (.bool t14) ∧
    ((!t14) = true →
      R (.bool false) wv_2) ∧
    ((!t14) = false →
      R (.bool true) wv_2))
theorem laws_eqSigned_eq (a0 : Bool) (a1_p : Option Addr) (a1_n : Nat) (a1_c : Nat) (b0 : Bool) (b1_p : Option Addr) (b1_n : Nat) (b1_c : Nat) (w : World) (R : Value → World → Prop) : laws_eqSigned a0 a1_p a1_n a1_c b0 b1_p b1_n b1_c w R = fsem P Tryd.f36 (fun k => []) [(.agg #[(.bool a0), (.slice a1_p a1_n a1_c)]), (.agg #[(.bool b0), (.slice b1_p b1_n b1_c)])] R w := by kernel_rfl
theorem laws_eqSigned_ret {a0 : Bool} {a1_p : Option Addr} {a1_n : Nat} {a1_c : Nat} {b0 : Bool} {b1_p : Option Addr} {b1_n : Nat} {b1_c : Nat} {w : World} {R : Value → World → Prop} (h : laws_eqSigned a0 a1_p a1_n a1_c b0 b1_p b1_n b1_c w R) : Ret P 36 [(.agg #[(.bool a0), (.slice a1_p a1_n a1_c)]), (.agg #[(.bool b0), (.slice b1_p b1_n b1_c)])] w R :=
  Ret.of_fsem Tryd.func36 rfl (Eq.mp (laws_eqSigned_eq a0 a1_p a1_n a1_c b0 b1_p b1_n b1_c w R) h)
def laws_szAcct (a0 : ByteArray) (a1 : ByteArray) (a2 : Bool) (a3_p : Option Addr) (a3_n : Nat) (a3_c : Nat) (left : Int) (w : World) (R : Value → World → Prop) : Prop :=
  ∀ (r : Nat) (wv : World), New w (.cells ⟨[(.string a0), (.string a1), (.bool a2), (.slice a3_p a3_n a3_c)]⟩ 70 (0, 0)) r wv →
  ∃ (t7 : ByteArray), Loads P 9 ((⟨r, 0, none⟩ : Addr).add 0) (.string t7) wv ∧ ∃ t9 : Int, t9 = IntKind.wrap .i64 (left - ((t7.size : Nat) : Int)) ∧ ((decide ((t9 : Int) < 0)) = true →
    R (.int .i64 (-1)) wv) ∧
  ((decide ((t9 : Int) < 0)) = false →
    ∃ (t130 : ByteArray) (t131 : Bool) (t132_p : Option Addr) (t132_n : Nat) (t132_c : Nat), Loads P 39 ((⟨r, 0, none⟩ : Addr).add 1) (.agg #[(.string t130), (.bool t131), (.slice t132_p t132_n t132_c)]) wv ∧ Calls P 12 ⟨[(.agg #[(.string t130), (.bool t131), (.slice t132_p t132_n t132_c)]), (.int .i64 t9)]⟩ wv fun e wv_1 =>
    ∃ (t15 : Int), e = .returned (.int .i64 t15) ∧
    ((decide ((t15 : Int) < 0)) = true →
      R (.int .i64 (-1)) wv_1) ∧
    ((decide ((t15 : Int) < 0)) = false →
      R (.int .i64 t15) wv_1))
theorem laws_szAcct_eq (a0 : ByteArray) (a1 : ByteArray) (a2 : Bool) (a3_p : Option Addr) (a3_n : Nat) (a3_c : Nat) (left : Int) (w : World) (R : Value → World → Prop) : laws_szAcct a0 a1 a2 a3_p a3_n a3_c left w R = fsem P Tryd.f38 (fun k => []) [(.agg #[(.string a0), (.string a1), (.bool a2), (.slice a3_p a3_n a3_c)]), (.int .i64 left)] R w := by kernel_rfl
theorem laws_szAcct_ret {a0 : ByteArray} {a1 : ByteArray} {a2 : Bool} {a3_p : Option Addr} {a3_n : Nat} {a3_c : Nat} {left : Int} {w : World} {R : Value → World → Prop} (h : laws_szAcct a0 a1 a2 a3_p a3_n a3_c left w R) : Ret P 38 [(.agg #[(.string a0), (.string a1), (.bool a2), (.slice a3_p a3_n a3_c)]), (.int .i64 left)] w R :=
  Ret.of_fsem Tryd.func38 rfl (Eq.mp (laws_szAcct_eq a0 a1 a2 a3_p a3_n a3_c left w R) h)
def laws_toAcct (a0 : ByteArray) (a1 : ByteArray) (a2 : Bool) (a3_p : Option Addr) (a3_n : Nat) (a3_c : Nat) (w : World) (R : Value → World → Prop) : Prop :=
  ∀ (r : Nat) (wv : World), New w (.cells ⟨[(.string a0), (.string a1), (.bool a2), (.slice a3_p a3_n a3_c)]⟩ 70 (0, 0)) r wv →
  ∀ (r_1 : Nat) (wv_1 : World), New wv (.cells ⟨[(.string ByteArray.empty), (.string ByteArray.empty), (.bool false), (.slice none 0 0)]⟩ 54 (0, 0)) r_1 wv_1 →
  ∀ (r_2 : Nat) (wv_2 : World), New wv_1 (.cells ⟨[(.string ByteArray.empty), (.string ByteArray.empty), (.bool false), (.slice none 0 0)]⟩ 54 (0, 0)) r_2 wv_2 →
  ∃ (t5 : ByteArray), Loads P 9 ((⟨r, 0, none⟩ : Addr).add 0) (.string t5) wv_2 ∧ ∃ wv_3, Stores P 9 ((⟨r_2, 0, none⟩ : Addr).add 0) (.string t5) wv_2 wv_3 ∧
  ∃ (t80 : ByteArray) (t81 : Bool) (t82_p : Option Addr) (t82_n : Nat) (t82_c : Nat), Loads P 39 ((⟨r, 0, none⟩ : Addr).add 1) (.agg #[(.string t80), (.bool t81), (.slice t82_p t82_n t82_c)]) wv_3 ∧ Calls P 14 ⟨[(.agg #[(.string t80), (.bool t81), (.slice t82_p t82_n t82_c)])]⟩ wv_3 fun e wv_4 =>
  ∃ (t90 : ByteArray) (t91 : Bool) (t92_p : Option Addr) (t92_n : Nat) (t92_c : Nat), e = .returned (.agg #[(.string t90), (.bool t91), (.slice t92_p t92_n t92_c)]) ∧
  ∃ wv_5, Stores P 44 ((⟨r_2, 0, none⟩ : Addr).add 1) (.agg #[(.string t90), (.bool t91), (.slice t92_p t92_n t92_c)]) wv_4 wv_5 ∧
  ∃ (t110 : ByteArray) (t111 : ByteArray) (t112 : Bool) (t113_p : Option Addr) (t113_n : Nat) (t113_c : Nat), Loads P 54 ⟨r_2, 0, none⟩ (.agg #[(.string t110), (.string t111), (.bool t112), (.slice t113_p t113_n t113_c)]) wv_5 ∧ ∃ wv_6, Stores P 54 ⟨r_1, 0, none⟩ (.agg #[(.string t110), (.string t111), (.bool t112), (.slice t113_p t113_n t113_c)]) wv_5 wv_6 ∧
  ∃ (r0 : ByteArray) (r1 : ByteArray) (r2 : Bool) (r3_p : Option Addr) (r3_n : Nat) (r3_c : Nat), Loads P 54 ⟨r_1, 0, none⟩ (.agg #[(.string r0), (.string r1), (.bool r2), (.slice r3_p r3_n r3_c)]) wv_6 ∧ R (.agg #[(.string r0), (.string r1), (.bool r2), (.slice r3_p r3_n r3_c)]) wv_6
theorem laws_toAcct_eq (a0 : ByteArray) (a1 : ByteArray) (a2 : Bool) (a3_p : Option Addr) (a3_n : Nat) (a3_c : Nat) (w : World) (R : Value → World → Prop) : laws_toAcct a0 a1 a2 a3_p a3_n a3_c w R = fsem P Tryd.f42 (fun k => []) [(.agg #[(.string a0), (.string a1), (.bool a2), (.slice a3_p a3_n a3_c)])] R w := by kernel_rfl
theorem laws_toAcct_ret {a0 : ByteArray} {a1 : ByteArray} {a2 : Bool} {a3_p : Option Addr} {a3_n : Nat} {a3_c : Nat} {w : World} {R : Value → World → Prop} (h : laws_toAcct a0 a1 a2 a3_p a3_n a3_c w R) : Ret P 42 [(.agg #[(.string a0), (.string a1), (.bool a2), (.slice a3_p a3_n a3_c)])] w R :=
  Ret.of_fsem Tryd.func42 rfl (Eq.mp (laws_toAcct_eq a0 a1 a2 a3_p a3_n a3_c w R) h)
def laws_eqAcct (a0 : ByteArray) (a1 : ByteArray) (a2 : Bool) (a3_p : Option Addr) (a3_n : Nat) (a3_c : Nat) (b0 : ByteArray) (b1 : ByteArray) (b2 : Bool) (b3_p : Option Addr) (b3_n : Nat) (b3_c : Nat) (w : World) (R : Value → World → Prop) : Prop :=
  ∀ (r : Nat) (wv : World), New w (.cells ⟨[(.string a0), (.string a1), (.bool a2), (.slice a3_p a3_n a3_c)]⟩ 54 (0, 0)) r wv →
  ∀ (r_1 : Nat) (wv_1 : World), New wv (.cells ⟨[(.string b0), (.string b1), (.bool b2), (.slice b3_p b3_n b3_c)]⟩ 54 (0, 0)) r_1 wv_1 →
  ∃ (t6 : ByteArray), Loads P 9 ((⟨r, 0, none⟩ : Addr).add 0) (.string t6) wv_1 ∧ ∃ (t8 : ByteArray), Loads P 9 ((⟨r_1, 0, none⟩ : Addr).add 0) (.string t8) wv_1 ∧ ((decide (t6 ≠ t8)) = true →
    R (.bool false) wv_1) ∧
  ((decide (t6 ≠ t8)) = false →
    ∃ (t110 : ByteArray) (t111 : Bool) (t112_p : Option Addr) (t112_n : Nat) (t112_c : Nat), Loads P 44 ((⟨r, 0, none⟩ : Addr).add 1) (.agg #[(.string t110), (.bool t111), (.slice t112_p t112_n t112_c)]) wv_1 ∧ ∃ (t130 : ByteArray) (t131 : Bool) (t132_p : Option Addr) (t132_n : Nat) (t132_c : Nat), Loads P 44 ((⟨r_1, 0, none⟩ : Addr).add 1) (.agg #[(.string t130), (.bool t131), (.slice t132_p t132_n t132_c)]) wv_1 ∧ Calls P 16 ⟨[(.agg #[(.string t110), (.bool t111), (.slice t112_p t112_n t112_c)]), (.agg #[(.string t130), (.bool t131), (.slice t132_p t132_n t132_c)])]⟩ wv_1 fun e wv_2 =>
    ∃ (t14 : Bool), e = .returned (.bool t14) ∧
    ((!t14) = true →
      R (.bool false) wv_2) ∧
    ((!t14) = false →
      R (.bool true) wv_2))
theorem laws_eqAcct_eq (a0 : ByteArray) (a1 : ByteArray) (a2 : Bool) (a3_p : Option Addr) (a3_n : Nat) (a3_c : Nat) (b0 : ByteArray) (b1 : ByteArray) (b2 : Bool) (b3_p : Option Addr) (b3_n : Nat) (b3_c : Nat) (w : World) (R : Value → World → Prop) : laws_eqAcct a0 a1 a2 a3_p a3_n a3_c b0 b1 b2 b3_p b3_n b3_c w R = fsem P Tryd.f51 (fun k => []) [(.agg #[(.string a0), (.string a1), (.bool a2), (.slice a3_p a3_n a3_c)]), (.agg #[(.string b0), (.string b1), (.bool b2), (.slice b3_p b3_n b3_c)])] R w := by kernel_rfl
theorem laws_eqAcct_ret {a0 : ByteArray} {a1 : ByteArray} {a2 : Bool} {a3_p : Option Addr} {a3_n : Nat} {a3_c : Nat} {b0 : ByteArray} {b1 : ByteArray} {b2 : Bool} {b3_p : Option Addr} {b3_n : Nat} {b3_c : Nat} {w : World} {R : Value → World → Prop} (h : laws_eqAcct a0 a1 a2 a3_p a3_n a3_c b0 b1 b2 b3_p b3_n b3_c w R) : Ret P 51 [(.agg #[(.string a0), (.string a1), (.bool a2), (.slice a3_p a3_n a3_c)]), (.agg #[(.string b0), (.string b1), (.bool b2), (.slice b3_p b3_n b3_c)])] w R :=
  Ret.of_fsem Tryd.func51 rfl (Eq.mp (laws_eqAcct_eq a0 a1 a2 a3_p a3_n a3_c b0 b1 b2 b3_p b3_n b3_c w R) h)
def laws_markText (k : Int) (w : World) (R : Value → World → Prop) : Prop :=
  ((decide ((k : Int) ≤ 0)) = true →
    R (.string (S [109, 48])) w) ∧
  ((decide ((k : Int) ≤ 0)) = false →
    ∃ (Inv : Int → ByteArray → World → Prop) (mu : Int → ByteArray → World → Nat), Inv k (S []) w ∧
    ∀ (junk : Fr) (wv : World) (k_1 : Int) (out : ByteArray), Inv k_1 out wv →
      ((decide ((0 : Int) < k_1)) = true →
        (10 : Int) ≠ 0 ∧ ∃ t9 : Int, t9 = Int.tmod k_1 10 ∧ ∃ t10 : Int, t10 = IntKind.wrap .i64 (48 + t9) ∧ ∃ t11 : Int, t11 = IntKind.wrap .u8 t10 ∧ ∀ (r : Nat) (wv_1 : World), New wv (.cells ⟨[(.int .u8 t11)]⟩ 5 (0, 0)) r wv_1 →
        ∃ (t13 : ByteArray), Convs P 99 9 (.slice (some ⟨r, 0, none⟩) 1 1) (.string t13) wv_1 ∧ t13.size + out.size ≤ 9223372036854775807 ∧ ∃ t15 : ByteArray, t15 = t13 ++ out ∧ (10 : Int) ≠ 0 ∧ ∃ t17 : Int, t17 = IntKind.wrap .i64 (Int.tdiv k_1 10) ∧ Inv t17 t15 wv_1 ∧ mu t17 t15 wv_1 < mu k_1 out wv) ∧
      ((decide ((0 : Int) < k_1)) = false →
        (S [109]).size + out.size ≤ 9223372036854775807 ∧ ∃ t19 : ByteArray, t19 = (S [109]) ++ out ∧ R (.string t19) wv))
theorem laws_markText_eq (k : Int) (w : World) (R : Value → World → Prop) : laws_markText k w R = fsem P Tryd.f52 (fun k => cond (Nat.beq k 5) [(0, .one (.int .i64)), (3, .one .str)] ([])) [(.int .i64 k)] R w := by kernel_rfl
theorem laws_markText_ret {k : Int} {w : World} {R : Value → World → Prop} (h : laws_markText k w R) : Ret P 52 [(.int .i64 k)] w R :=
  Ret.of_fsem Tryd.func52 rfl (Eq.mp (laws_markText_eq k w R) h)
def laws_markIntS (a_p : Option Addr) (a_n : Nat) (a_c : Nat) (k : Int) (w : World) (R : Value → World → Prop) : Prop :=
  ∃ (Inv : Int → Int → World → Prop) (mu : Int → Int → World → Nat), Inv k 0 w ∧
  ∀ (junk : Fr) (wv : World) (k_1 : Int) (i : Int), Inv k_1 i wv →
    ((decide ((i : Int) < ((a_n : Nat) : Int))) = true →
      (0 ≤ (i : Int) ∧ (i : Int) < (a_n : Nat)) ∧ ptrS a_p fun ad => ∃ wv_1, Stores P 3 (ad.add (i.toNat * 1)) (.int .i64 k_1) wv wv_1 ∧
      ∃ t17 : Int, t17 = IntKind.wrap .i64 (k_1 + 1) ∧ ∃ t11 : Int, t11 = IntKind.wrap .i64 (i + 1) ∧ Inv t17 t11 wv_1 ∧ mu t17 t11 wv_1 < mu k_1 i wv) ∧
    ((decide ((i : Int) < ((a_n : Nat) : Int))) = false →
      R (.int .i64 k_1) wv)
theorem laws_markIntS_eq (a_p : Option Addr) (a_n : Nat) (a_c : Nat) (k : Int) (w : World) (R : Value → World → Prop) : laws_markIntS a_p a_n a_c k w R = fsem P Tryd.f53 (fun k => cond (Nat.beq k 3) [(1, .one (.int .i64)), (5, .one (.int .i64))] ([])) [(.slice a_p a_n a_c), (.int .i64 k)] R w := by kernel_rfl
theorem laws_markIntS_ret {a_p : Option Addr} {a_n : Nat} {a_c : Nat} {k : Int} {w : World} {R : Value → World → Prop} (h : laws_markIntS a_p a_n a_c k w R) : Ret P 53 [(.slice a_p a_n a_c), (.int .i64 k)] w R :=
  Ret.of_fsem Tryd.func53 rfl (Eq.mp (laws_markIntS_eq a_p a_n a_c k w R) h)
def laws_heldIntS (a_p : Option Addr) (a_n : Nat) (a_c : Nat) (k : Int) (w : World) (R : Value → World → Prop) : Prop :=
  ∃ (Inv : Int → Int → World → Prop) (mu : Int → Int → World → Nat), Inv k 0 w ∧
  ∀ (junk : Fr) (wv : World) (k_1 : Int) (i : Int), Inv k_1 i wv →
    ((decide ((i : Int) < ((a_n : Nat) : Int))) = true →
      (0 ≤ (i : Int) ∧ (i : Int) < (a_n : Nat)) ∧ ptrS a_p fun ad => ∃ (t15 : Int), Loads P 3 (ad.add (i.toNat * 1)) (.int .i64 t15) wv ∧ ((decide ((t15 : Int) ≠ k_1)) = true →
        R (.int .i64 (-1)) wv) ∧
      ((decide ((t15 : Int) ≠ k_1)) = false →
        ∃ t19 : Int, t19 = IntKind.wrap .i64 (k_1 + 1) ∧ ∃ t11 : Int, t11 = IntKind.wrap .i64 (i + 1) ∧ Inv t19 t11 wv ∧ mu t19 t11 wv < mu k_1 i wv)) ∧
    ((decide ((i : Int) < ((a_n : Nat) : Int))) = false →
      R (.int .i64 k_1) wv)
theorem laws_heldIntS_eq (a_p : Option Addr) (a_n : Nat) (a_c : Nat) (k : Int) (w : World) (R : Value → World → Prop) : laws_heldIntS a_p a_n a_c k w R = fsem P Tryd.f54 (fun k => cond (Nat.beq k 3) [(1, .one (.int .i64)), (5, .one (.int .i64))] ([])) [(.slice a_p a_n a_c), (.int .i64 k)] R w := by kernel_rfl
theorem laws_heldIntS_ret {a_p : Option Addr} {a_n : Nat} {a_c : Nat} {k : Int} {w : World} {R : Value → World → Prop} (h : laws_heldIntS a_p a_n a_c k w R) : Ret P 54 [(.slice a_p a_n a_c), (.int .i64 k)] w R :=
  Ret.of_fsem Tryd.func54 rfl (Eq.mp (laws_heldIntS_eq a_p a_n a_c k w R) h)
def laws_szIntS (a_p : Option Addr) (a_n : Nat) (a_c : Nat) (left : Int) (w : World) (R : Value → World → Prop) : Prop :=
  ∃ t8 : Int, t8 = IntKind.wrap .i64 (left - ((a_n : Nat) : Int)) ∧ ((decide ((t8 : Int) < 0)) = true →
    R (.int .i64 (-1)) w) ∧
  ((decide ((t8 : Int) < 0)) = false →
    R (.int .i64 t8) w)
theorem laws_szIntS_eq (a_p : Option Addr) (a_n : Nat) (a_c : Nat) (left : Int) (w : World) (R : Value → World → Prop) : laws_szIntS a_p a_n a_c left w R = fsem P Tryd.f55 (fun k => []) [(.slice a_p a_n a_c), (.int .i64 left)] R w := by kernel_rfl
theorem laws_szIntS_ret {a_p : Option Addr} {a_n : Nat} {a_c : Nat} {left : Int} {w : World} {R : Value → World → Prop} (h : laws_szIntS a_p a_n a_c left w R) : Ret P 55 [(.slice a_p a_n a_c), (.int .i64 left)] w R :=
  Ret.of_fsem Tryd.func55 rfl (Eq.mp (laws_szIntS_eq a_p a_n a_c left w R) h)
def laws_toIntS (a_p : Option Addr) (a_n : Nat) (a_c : Nat) (w : World) (R : Value → World → Prop) : Prop :=
  (0 ≤ (((a_n : Nat) : Int) : Int) ∧ (((a_n : Nat) : Int) : Int) ≤ ((a_n : Nat) : Int) ∧ ((8 : Nat) : Int) * ((a_n : Nat) : Int) ≤ 281474976710656) ∧
  ∀ (r : Nat) (wv : World), New w (.cells ⟨zeroRow (.int .i64 0) (a_n * 1)⟩ 3 (0, 0)) r wv →
  ∃ (Inv : Int → World → Prop) (mu : Int → World → Nat), Inv 0 wv ∧
  ∀ (junk : Fr) (wv_1 : World) (i : Int), Inv i wv_1 →
    ((decide ((i : Int) < ((a_n : Nat) : Int))) = true →
      (0 ≤ (i : Int) ∧ (i : Int) < (a_n : Nat)) ∧ ptrS a_p fun ad => ∃ (t19 : Int), Loads P 3 (ad.add (i.toNat * 1)) (.int .i64 t19) wv_1 ∧ (0 ≤ (i : Int) ∧ (i : Int) < (a_n : Nat)) ∧ ∃ wv_2, Stores P 3 ((⟨r, 0, none⟩ : Addr).add (i.toNat * 1)) (.int .i64 t19) wv_1 wv_2 ∧
      ∃ t13 : Int, t13 = IntKind.wrap .i64 (i + 1) ∧ Inv t13 wv_2 ∧ mu t13 wv_2 < mu i wv_1) ∧
    ((decide ((i : Int) < ((a_n : Nat) : Int))) = false →
      R (.slice (some ⟨r, 0, none⟩) a_n a_n) wv_1)
theorem laws_toIntS_eq (a_p : Option Addr) (a_n : Nat) (a_c : Nat) (w : World) (R : Value → World → Prop) : laws_toIntS a_p a_n a_c w R = fsem P Tryd.f59 (fun k => cond (Nat.beq k 4) [(4, .one (.int .i64))] ([])) [(.slice a_p a_n a_c)] R w := by kernel_rfl
theorem laws_toIntS_ret {a_p : Option Addr} {a_n : Nat} {a_c : Nat} {w : World} {R : Value → World → Prop} (h : laws_toIntS a_p a_n a_c w R) : Ret P 59 [(.slice a_p a_n a_c)] w R :=
  Ret.of_fsem Tryd.func59 rfl (Eq.mp (laws_toIntS_eq a_p a_n a_c w R) h)
def laws_eqIntS (a_p : Option Addr) (a_n : Nat) (a_c : Nat) (b_p : Option Addr) (b_n : Nat) (b_c : Nat) (w : World) (R : Value → World → Prop) : Prop :=
  ((decide ((((a_n : Nat) : Int) : Int) ≠ ((b_n : Nat) : Int))) = true →
    R (.bool false) w) ∧
  ((decide ((((a_n : Nat) : Int) : Int) ≠ ((b_n : Nat) : Int))) = false →
    ∃ (Inv : Int → World → Prop) (mu : Int → World → Nat), Inv 0 w ∧
    ∀ (junk : Fr) (wv : World) (i : Int), Inv i wv →
      ((decide ((i : Int) < ((a_n : Nat) : Int))) = true →
        (0 ≤ (i : Int) ∧ (i : Int) < (a_n : Nat)) ∧ ptrS a_p fun ad => ∃ (t20 : Int), (∀ wv_1, Ext wv.drew wv_1 → Loads P 3 (ad.add (i.toNat * 1)) (.int .i64 t20) wv_1) ∧ (0 ≤ (i : Int) ∧ (i : Int) < (b_n : Nat)) ∧ ptrS b_p fun ad_1 => ∃ (t24 : Int), (∀ wv_2, Ext wv.drew wv_2 → Loads P 3 (ad_1.add (i.toNat * 1)) (.int .i64 t24) wv_2) ∧ ((decide ((t20 : Int) ≠ t24)) = true →
          R (.bool false) wv.drew) ∧
        ((decide ((t20 : Int) ≠ t24)) = false →
          ∃ t16 : Int, t16 = IntKind.wrap .i64 (i + 1) ∧ Inv t16 wv.drew ∧ mu t16 wv.drew < mu i wv)) ∧
      ((decide ((i : Int) < ((a_n : Nat) : Int))) = false →
        R (.bool true) wv))
theorem laws_eqIntS_eq (a_p : Option Addr) (a_n : Nat) (a_c : Nat) (b_p : Option Addr) (b_n : Nat) (b_c : Nat) (w : World) (R : Value → World → Prop) : laws_eqIntS a_p a_n a_c b_p b_n b_c w R = fsem P Tryd.f63 (fun k => cond (Nat.beq k 5) [(5, .one (.int .i64))] ([])) [(.slice a_p a_n a_c), (.slice b_p b_n b_c)] R w := by kernel_rfl
theorem laws_eqIntS_ret {a_p : Option Addr} {a_n : Nat} {a_c : Nat} {b_p : Option Addr} {b_n : Nat} {b_c : Nat} {w : World} {R : Value → World → Prop} (h : laws_eqIntS a_p a_n a_c b_p b_n b_c w R) : Ret P 63 [(.slice a_p a_n a_c), (.slice b_p b_n b_c)] w R :=
  Ret.of_fsem Tryd.func63 rfl (Eq.mp (laws_eqIntS_eq a_p a_n a_c b_p b_n b_c w R) h)
end Go.Proofs.YteakifedfnnmeaaDoor

namespace Go.Proofs.YteakifedfnnmeaaDoor.Sx
open Go Go.RowKit
set_option linter.unusedVariables false
set_option linter.unusedSimpArgs false
/-- only blocks in S (and new ones) have turned -/
theorem Ext.le {a b : World} (h : Ext a b) : a.heap.size ≤ b.heap.size := h.size
def Seg (w : World) (b off : Nat) (cs : List Value) : Prop := ∀ j v, cs[j]? = some v → w.cell? ⟨b, off + j, none⟩ = some v
theorem Seg.nil {w : World} {b off : Nat} : Seg w b off [] := fun j v h => by simp at h
theorem Seg.drop {w : World} {b off : Nat} {cs : List Value} (h : Seg w b off cs) (k : Nat) : Seg w b (off + k) (cs.drop k) := fun j v hj => by
  rw [List.getElem?_drop] at hj
  have := h _ _ hj
  rwa [Nat.add_assoc]
theorem Seg.take {w : World} {b off : Nat} {cs : List Value} (h : Seg w b off cs) (k : Nat) : Seg w b off (cs.take k) := fun j v hj => by
  rw [List.getElem?_take] at hj
  split at hj
  · exact h _ _ hj
  · cases hj
theorem Seg.ext {w w' : World} {b off : Nat} {cs : List Value} (h : Seg w b off cs) (he : Ext w w') : Seg w' b off cs := fun j v hj => by
  have h1 := h j v hj
  rw [← h1]
  exact he.cell (World.block_lt_of_cell? w _ h1)
theorem Seg.chg {S : List Nat} {w w' : World} {b off : Nat} {cs : List Value} (h : Seg w b off cs) (he : Chg S w w') (hb : b ∉ S) : Seg w' b off cs := fun j v hj => by
  have h1 := h j v hj
  rw [← h1]
  exact World.cell?_of_block (he.block b (World.block_lt_of_cell? w _ h1) hb)
/-- a block that is known whole -/
def Blk (w : World) (b : Nat) (e : TypeId) (xs : List Value) : Prop := w.heap[b]? = some (.cells ⟨xs⟩ e (0, 0))
theorem Blk.lt {w : World} {b : Nat} {e : TypeId} {xs : List Value} (h : Blk w b e xs) : b < w.heap.size := (Array.getElem?_eq_some_iff.1 h).1
theorem Blk.ext {w w' : World} {b : Nat} {e : TypeId} {xs : List Value} (h : Blk w b e xs) (he : Ext w w') : Blk w' b e xs := (he.block b h.lt).trans h
theorem Blk.chg {S : List Nat} {w w' : World} {b : Nat} {e : TypeId} {xs : List Value} (h : Blk w b e xs) (he : Chg S w w') (hb : b ∉ S) : Blk w' b e xs := (he.block b h.lt hb).trans h
theorem Blk.cell {w : World} {b : Nat} {e : TypeId} {xs : List Value} (h : Blk w b e xs) (j : Nat) : w.cell? ⟨b, j, none⟩ = xs[j]? := by
  rw [cell_of_row w b j _ e (0, 0) h]; simp
theorem Blk.seg {w : World} {b : Nat} {e : TypeId} {xs : List Value} (h : Blk w b e xs) : Seg w b 0 xs := fun j v hj => by rw [Nat.zero_add, h.cell, hj]
theorem New.ext {w w' : World} {o : Obj} {r : Nat} (h : New w o r w') : Ext w w' := by
  obtain ⟨rfl, rfl⟩ := h
  exact (Below.refl _ _).alloc (Nat.le_refl _) _
theorem New.size {w w' : World} {o : Obj} {r : Nat} (h : New w o r w') : w'.heap.size = w.heap.size + 1 := by
  obtain ⟨rfl, rfl⟩ := h; simp
theorem New.blk {w w' : World} {xs : List Value} {e : TypeId} {r : Nat} (h : New w (.cells ⟨xs⟩ e (0, 0)) r w') : Blk w' r e xs := by
  obtain ⟨rfl, rfl⟩ := h
  exact heap_alloc_new w _
theorem addr_add (b o k : Nat) : (⟨b, o, none⟩ : Addr).add k = ⟨b, o + k, none⟩ := Addr.add_lit b o k
section
variable {P : Program}
/-- a type whose values lie in one cell -/
def cellT (P : Program) (t : TypeId) : Bool :=
  match P.underlying t, P.info? t with
  | some (.struct _), _ => false
  | some (.array _ _), _ => false
  | some _, some i => Nat.beq i.size 1
  | _, _ => false
/-- a type whose values are aggregates of so many cells -/
def aggT (P : Program) (t : TypeId) (n : Nat) : Bool :=
  match P.underlying t, P.info? t with
  | some (.struct _), some i => Nat.beq i.size n
  | some (.array _ _), some i => Nat.beq i.size n
  | _, _ => false
theorem cellT_spec {t : TypeId} (h : cellT P t = true) : (∀ w, (isAgg t).run P w = .ok false w) ∧ ∃ i, P.info? t = some i ∧ i.size = 1 := by
  unfold cellT at h
  split at h <;> try cases h
  rename_i d i hs ha hu hi
  refine ⟨fun w => ?_, i, hi, Nat.eq_of_beq_eq_true h⟩
  unfold isAgg
  rw [Sem.run_bind, underlying_run hu w]
  cases d <;> first | rfl | (exact absurd rfl (hs _)) | (exact absurd rfl (ha _ _))
theorem aggT_spec {t : TypeId} {n : Nat} (h : aggT P t n = true) : (∀ w, (isAgg t).run P w = .ok true w) ∧ ∃ i, P.info? t = some i ∧ i.size = n := by
  unfold aggT at h
  split at h
  · rename_i fs i hu hi
    exact ⟨fun w => by unfold isAgg; rw [Sem.run_bind, underlying_run hu w]; rfl, i, hi, Nat.eq_of_beq_eq_true h⟩
  · rename_i k e i hu hi
    exact ⟨fun w => by unfold isAgg; rw [Sem.run_bind, underlying_run hu w]; rfl, i, hi, Nat.eq_of_beq_eq_true h⟩
  · cases h
theorem loads1 {w : World} {t : TypeId} {b o : Nat} {v : Value} (ht : cellT P t = true) (h : w.cell? ⟨b, o, none⟩ = some v) : Loads P t ⟨b, o, none⟩ v w := by
  unfold Loads loadVar
  rw [Sem.run_bind, (cellT_spec ht).1]
  simp [h]
theorem loadsA {w : World} {t : TypeId} {b o : Nat} {cs : List Value} (ht : aggT P t cs.length = true) (h : Seg w b o cs) : Loads P t ⟨b, o, none⟩ (.agg ⟨cs⟩) w := by
  obtain ⟨h1, i, hi, hn⟩ := aggT_spec ht
  unfold Loads loadVar
  rw [Sem.run_bind, h1]
  simp only [Result.andThen_ok, if_true, Sem.run_bind, sizeOf_run hi, hn]
  rw [run_loadCells_list (P := P) w ⟨b, o, none⟩ cs fun j v hv => by rw [addr_add]; exact h j v hv]
  rfl
theorem Seg.load {w : World} {t : TypeId} {b o k : Nat} {cs : List Value} {v : Value} (h : Seg w b o cs) (ht : cellT P t = true) (hx : cs[k]? = some v) : Loads P t ((⟨b, o, none⟩ : Addr).add k) v w := by
  rw [addr_add]; exact loads1 ht (h _ _ hx)
theorem Seg.loadA {w : World} {t : TypeId} {b o k : Nat} {cs xs : List Value} (h : Seg w b o cs) (ht : aggT P t xs.length = true) (hx : (cs.drop k).take xs.length = xs) : Loads P t ((⟨b, o, none⟩ : Addr).add k) (.agg ⟨xs⟩) w := by
  rw [addr_add]
  refine loadsA ht ?_
  have := (h.drop k).take xs.length
  rwa [hx] at this
theorem Blk.load {w : World} {t : TypeId} {b k : Nat} {e : TypeId} {cs : List Value} {v : Value} (h : Blk w b e cs) (ht : cellT P t = true) (hx : cs[k]? = some v) : Loads P t ((⟨b, 0, none⟩ : Addr).add k) v w :=
  h.seg.load ht hx
theorem Blk.loadA {w : World} {t : TypeId} {b k : Nat} {e : TypeId} {cs xs : List Value} (h : Blk w b e cs) (ht : aggT P t xs.length = true) (hx : (cs.drop k).take xs.length = xs) : Loads P t ((⟨b, 0, none⟩ : Addr).add k) (.agg ⟨xs⟩) w :=
  h.seg.loadA ht hx
theorem setRow_chg (w : World) (b : Nat) (cs : Array Value) : Chg [b] w (w.setRow b cs) :=
  ⟨rfl, rfl, rfl, by simp, fun k _ hk => setRow_other w b k _ (by simpa using hk)⟩
/-- a store into a block that is known whole -/
theorem Blk.store {w : World} {t : TypeId} {b k : Nat} {e : TypeId} {cs : List Value} {v : Value} (h : Blk w b e cs) (ht : cellT P t = true) (hk : k < cs.length) (hv : v.oneCell' = true) :
    ∃ w', Stores P t ((⟨b, 0, none⟩ : Addr).add k) v w w' ∧ Blk w' b e (cs.set k v) ∧ Chg [b] w w' ∧ w'.heap.size = w.heap.size := by
  obtain ⟨_, i, hi, hn⟩ := cellT_spec ht
  have hc : v.cells = #[v] := by cases v <;> first | rfl | (simp [Value.oneCell'] at hv)
  have hst := run_storeCells_at P b k e [v] 0 ⟨cs⟩ w h (by simp only [List.length_cons, List.length_nil]; show k + 0 + 1 ≤ cs.length; omega) (by simpa using hv)
  refine ⟨_, ?_, setRow_heap w b ⟨cs⟩ _ e _ h, setRow_chg _ _ _, by simp⟩
  · unfold Stores storeVar
    rw [addr_add, Nat.zero_add]
    simp only [Sem.run_bind, sizeOf_run hi, Result.andThen_ok, hc, hn, List.size_toArray, List.length_cons, List.length_nil]
    simp only [Nat.zero_add, ne_eq, not_true, if_false, Sem.run_pure, Result.andThen_ok]
    rw [hst]
    congr 3
    simp only [Nat.add_zero, List.length_cons, List.length_nil, Nat.zero_add]
    rw [List.set_eq_take_append_cons_drop]
    simp [hk]
/-- a store of an aggregate -/
theorem Blk.storeA {w : World} {t : TypeId} {b k : Nat} {e : TypeId} {cs xs : List Value} (h : Blk w b e cs) (ht : aggT P t xs.length = true) (hk : k + xs.length ≤ cs.length) (hv : ∀ v ∈ xs, v.oneCell' = true) :
    ∃ w', Stores P t ((⟨b, 0, none⟩ : Addr).add k) (.agg ⟨xs⟩) w w' ∧ Blk w' b e (cs.take k ++ xs ++ cs.drop (k + xs.length)) ∧ Chg [b] w w' ∧ w'.heap.size = w.heap.size := by
  obtain ⟨_, i, hi, hn⟩ := aggT_spec ht
  have hst := run_storeCells_at P b k e xs 0 ⟨cs⟩ w h (by simpa using hk) hv
  refine ⟨_, ?_, setRow_heap w b ⟨cs⟩ _ e _ h, setRow_chg _ _ _, by simp⟩
  unfold Stores storeVar
  rw [addr_add, Nat.zero_add]
  simp only [Sem.run_bind, sizeOf_run hi, Result.andThen_ok, Value.cells, hn, List.size_toArray]
  simp only [ne_eq, not_true, if_false, Sem.run_pure, Result.andThen_ok]
  rw [hst]
  simp
/-- a slice type: its element type, that one's zero value, cells and bytes -/
def sliceT (P : Program) (t e : TypeId) (z : Value) (size bytes : Nat) : Prop :=
  P.underlying t = some (.slice e) ∧ (P.info? e).map (fun i => (i.zero, i.size, i.bytes)) = some (some z, size, bytes) ∧ z.cells.size = size ∧ 0 < size
/-- a slice whose cells are one's own -/
def Own (w : World) (base : Nat) (e : TypeId) (size : Nat) (p : Option Addr) (n c : Nat) (xs : List Value) : Prop := w.ownsRow base e size (.slice p n c) n xs
theorem Own.nil (w : World) (base : Nat) (e : TypeId) (size : Nat) : Own w base e size none 0 0 [] := World.ownsRow_nil w base e size
theorem Own.ext {w w' : World} {base : Nat} {e : TypeId} {size : Nat} {p : Option Addr} {n c : Nat} {xs : List Value} (h : Own w base e size p n c xs) (he : Ext w w') : Own w' base e size p n c xs :=
  h.kept (row := none) ⟨he.os, he.tape, he.output, he.size, fun k hk _ => he.block k hk⟩ (by cases p <;> simp [Value.ownBlock])
theorem Own.of_blk {w : World} {base : Nat} {e : TypeId} {size : Nat} {r n : Nat} {xs : List Value} (h : Blk w r e xs) (hb : base ≤ r) (hl : xs.length = n * size) (hn : n ≤ maxLen) : Own w base e size (some ⟨r, 0, none⟩) n n xs :=
  ⟨hl, .inr ⟨r, n, ⟨xs⟩, rfl, hb, h, Nat.le_refl _, hn, by simpa using hl, by simp [← hl]⟩⟩
theorem Own.of_blk0 {w : World} {base : Nat} {e : TypeId} {size : Nat} {r n : Nat} {xs : List Value} (h : Blk w r e xs) (hb : base ≤ r) (hl : xs.length = n * size) (hn : n ≤ maxLen) : Own w base e size (some ⟨r, 0, none⟩) 0 n [] :=
  ⟨by simp, .inr ⟨r, n, ⟨xs⟩, rfl, hb, h, Nat.zero_le _, hn, by simpa using hl, by simp⟩⟩
theorem Own.len {w : World} {base : Nat} {e : TypeId} {size : Nat} {p : Option Addr} {n c : Nat} {xs : List Value} (h : Own w base e size p n c xs) : xs.length = n * size := h.1
theorem Own.le {w : World} {base : Nat} {e : TypeId} {size : Nat} {p : Option Addr} {n c : Nat} {xs : List Value} (h : Own w base e size p n c xs) : n ≤ c := by
  rcases h.2 with ⟨h1, h2⟩ | ⟨g, cap, cur, h1, _, _, h3, _⟩
  · omega
  · simp only [Value.slice.injEq] at h1; omega
theorem Own.capLe {w : World} {base : Nat} {e : TypeId} {size : Nat} {p : Option Addr} {n c : Nat} {xs : List Value} (h : Own w base e size p n c xs) : c ≤ 9223372036854775807 := by
  rcases h.2 with ⟨h1, h2⟩ | ⟨g, cap, cur, h1, _, _, h3, h4, _⟩
  · simp only [Value.slice.injEq] at h1; omega
  · simp only [Value.slice.injEq] at h1; simp only [maxLen] at h4; omega
theorem Own.seg {w : World} {base : Nat} {e : TypeId} {size : Nat} {p : Option Addr} {n c : Nat} {xs : List Value} (h : Own w base e size p n c xs) (hn : 0 < n) : ∃ b, p = some ⟨b, 0, none⟩ ∧ base ≤ b ∧ Seg w b 0 xs := by
  rcases h.2 with ⟨h1, h2⟩ | ⟨g, cap, cur, h1, hb, hg, h3, h4, h5, h6⟩
  · omega
  · simp only [Value.slice.injEq] at h1
    refine ⟨g, h1.1, hb, fun j v hj => ?_⟩
    rw [Nat.zero_add, cell_of_row w g j cur e (0, 0) hg]
    rw [← h6, List.getElem?_take] at hj
    split at hj
    · simpa using hj
    · cases hj
theorem Own.mono {w : World} {base base' : Nat} {e : TypeId} {size : Nat} {p : Option Addr} {n c : Nat} {xs : List Value} (h : Own w base e size p n c xs) (hb : base' ≤ base) : Own w base' e size p n c xs := by
  refine ⟨h.1, ?_⟩
  rcases h.2 with h1 | ⟨g, cap, cur, h1, h2, h3⟩
  · exact .inl h1
  · exact .inr ⟨g, cap, cur, h1, Nat.le_trans hb h2, h3⟩
/-- append onto a row of one's own: m elements that lie in a block known whole -/
theorem Own.append {w : World} {base : Nat} {t e : TypeId} {z : Value} {size bytes : Nat} {p : Option Addr} {n c r m mc : Nat} {xs news : List Value} (h : Own w base e size p n c xs)
    (hT : sliceT P t e z size bytes) (hb : base ≤ w.heap.size) (hr : Blk w r e news) (hl : news.length = m * size) (h1 : ∀ u ∈ news, u.oneCell' = true)
    (hbytes : (n + m) * bytes ≤ 140737488355328) (hby : 1 ≤ bytes) :
    ∃ p' c' w', Appends P [t, t] [.slice p n c, .slice (some ⟨r, 0, none⟩) m mc] (.slice p' (n + m) c') w w' ∧ Own w' base e size p' (n + m) c' (xs ++ news) ∧
      (∀ w0, Ext w0 w → w0.heap.size ≤ base → Ext w0 w') ∧ (∀ b e' ys, Blk w b e' ys → p.map (·.block) ≠ some b → Blk w' b e' ys) ∧
      (∀ b o ys, Seg w b o ys → p.map (·.block) ≠ some b → Seg w' b o ys) := by
  obtain ⟨hu, hi, hz, hs⟩ := hT
  cases hinf : P.info? e with
  | none => rw [hinf] at hi; cases hi
  | some i =>
    rw [hinf] at hi
    simp only [Option.map_some, Option.some.injEq, Prod.mk.injEq] at hi
    have hnm : n + m ≤ maxLen := by
      have : n + m ≤ (n + m) * bytes := Nat.le_mul_of_pos_right _ hby
      simp only [maxLen]; omega
    obtain ⟨v', w', hrun, hown, hgr, _⟩ := run_append_own (P := P) w base t 0 e i z size bytes hu hinf hi.1 hi.2.1 hi.2.2 hz hs (.slice p n c) n xs h ⟨r, 0, none⟩ m mc news hl
      (fun j u hj => by rw [addr_add, Nat.zero_add, hr.cell, hj]) h1 hnm hbytes hb
    have hlt := h.lt
    have hv : ∃ p' c', v' = .slice p' (n + m) c' := by
      rcases hown.2 with ⟨e1, e2⟩ | ⟨g, cap, cur, e1, _⟩
      · exact ⟨none, 0, by rw [e1, e2]⟩
      · exact ⟨_, _, e1⟩
    obtain ⟨p', c', rfl⟩ := hv
    have hob : (Value.slice p n c).ownBlock = p.map (·.block) := by cases p <;> rfl
    refine ⟨p', c', w', hrun, hown, ?_, ?_, ?_⟩
    · intro w0 hx hb0
      refine hx.chg (S := (p.map (·.block)).toList) ⟨hgr.os, hgr.tape, hgr.output, hgr.size, fun k hk hn => hgr.block k hk ?_⟩ ?_
      · rw [hob]; intro e; rw [← e] at hn; simp at hn
      · intro x hx'
        have := (hlt x (by rw [hob]; cases p <;> simp_all)).1
        omega
    · intro b e' ys hy hne
      exact (hgr.block b hy.lt (by rw [hob]; exact fun e => hne e.symm)).trans hy
    · intro b o ys hy hne j v hj
      have h3 := hy j v hj
      rw [← h3]
      exact World.cell?_of_block (hgr.block b (World.block_lt_of_cell? w _ h3) (by rw [hob]; exact fun e => hne e.symm))
end
/-- a slice of numbers reads as zs -/
def IntsR (w : World) (p : Option Addr) (n c : Nat) (zs : List Int) : Prop :=
  zs.length = n ∧ n ≤ c ∧ c ≤ 9223372036854775807 ∧ (0 < n → ∃ b off, p = some ⟨b, off, none⟩ ∧ Seg w b off (zs.map (Value.int .i64)))
theorem IntsR.ext {w w' : World} {p : Option Addr} {n c : Nat} {zs : List Int} (h : IntsR w p n c zs) (he : Ext w w') : IntsR w' p n c zs :=
  ⟨h.1, h.2.1, h.2.2.1, fun hn => let ⟨b, off, hp, hs⟩ := h.2.2.2 hn; ⟨b, off, hp, hs.ext he⟩⟩
theorem IntsR.chg {S : List Nat} {w w' : World} {p : Option Addr} {n c : Nat} {zs : List Int} (h : IntsR w p n c zs) (he : Chg S w w') (hS : ∀ b, p.map (·.block) = some b → b ∉ S) : IntsR w' p n c zs :=
  ⟨h.1, h.2.1, h.2.2.1, fun hn => let ⟨b, off, hp, hs⟩ := h.2.2.2 hn; ⟨b, off, hp, hs.chg he (hS b (by rw [hp]; rfl))⟩⟩
theorem IntsR.nil (w : World) (p : Option Addr) {c : Nat} (hc : c ≤ 9223372036854775807) : IntsR w p 0 c [] := ⟨rfl, Nat.zero_le _, hc, fun h => absurd h (by omega)⟩
theorem Own.ints {w : World} {base : Nat} {e : TypeId} {p : Option Addr} {n c : Nat} {zs : List Int} (h : Own w base e 1 p n c (zs.map (Value.int .i64))) : IntsR w p n c zs :=
  ⟨by simpa using h.len, h.le, h.capLe, fun hn => let ⟨b, hp, _, hs⟩ := h.seg hn; ⟨b, 0, hp, hs⟩⟩
/-- the cell of number k -/
theorem IntsR.at {P : Program} {w : World} {p : Option Addr} {n c k : Nat} {zs : List Int} (h : IntsR w p n c zs) {t : TypeId} (ht : cellT P t = true) (hk : k < n) :
    ∃ a, p = some a ∧ Loads P t (a.add (k * 1)) (.int .i64 (zs[k]'(by rw [h.1]; exact hk))) w := by
  obtain ⟨b, off, hp, hs⟩ := h.2.2.2 (by omega)
  refine ⟨_, hp, ?_⟩
  rw [Nat.mul_one]
  exact hs.load ht (by simp [List.getElem?_eq_getElem (by rw [h.1]; exact hk : k < zs.length)])
theorem wrap64 {e : Int} (h1 : -9223372036854775808 ≤ e) (h2 : e ≤ 9223372036854775807) : IntKind.wrap .i64 e = e := by
  simp only [IntKind.wrap, IntKind.bits, IntKind.signed]
  by_cases h0 : 0 ≤ e
  · have : e % (2 ^ 64 : Int) = e := Int.emod_eq_of_lt h0 (by omega)
    simp [this]; omega
  · have : e % (2 ^ 64 : Int) = e + 2 ^ 64 := by omega
    simp [this]; omega
/-- a sum that fits -/
theorem exW {e : Int} {Q : Int → Prop} (h : -9223372036854775808 ≤ e ∧ e ≤ 9223372036854775807) (hq : Q e) : ∃ z, z = IntKind.wrap .i64 e ∧ Q z := ⟨e, (wrap64 h.1 h.2).symm, hq⟩
/-- a test, both ways -/
theorem ifD {p : Prop} [Decidable p] {A B : Prop} (ha : p → A) (hb : ¬ p → B) : (decide p = true → A) ∧ (decide p = false → B) :=
  ⟨fun h => ha (of_decide_eq_true h), fun h => hb (of_decide_eq_false h)⟩
theorem ifN {b : Bool} {A B : Prop} (ha : b = false → A) (hb : b = true → B) : ((!b) = true → A) ∧ ((!b) = false → B) := ⟨fun h => ha (by simpa using h), fun h => hb (by simpa using h)⟩
theorem ifT {A B : Prop} (ha : A) : (true = true → A) ∧ (true = false → B) := ⟨fun _ => ha, fun h => nomatch h⟩
theorem ifF {A B : Prop} (hb : B) : (false = true → A) ∧ (false = false → B) := ⟨fun h => (nomatch h), fun _ => hb⟩
theorem zeroRow_int (k : IntKind) (z : Int) (n : Nat) : zeroRow (.int k z) n = List.replicate n (.int k z) := by
  unfold zeroRow
  apply List.ext_getElem
  · simp
  · intro i h1 h2
    simp [Value.cells, Nat.mod_one]
end Go.Proofs.YteakifedfnnmeaaDoor.Sx

namespace Go.Proofs.YteakifedfnnmeaaDoor.Sx
open Go Go.RowKit
set_option linter.unusedVariables false
set_option linter.unusedSimpArgs false
/-- what one cell reads as -/
inductive D0 where
  | int (n : Int) | bool (b : Bool) | str (s : ByteArray) | ints (l : List Int)
  deriving DecidableEq
inductive C0 where
  | int | bool | str | ints
  deriving DecidableEq
def D0.code : D0 → C0
  | .int _ => .int
  | .bool _ => .bool
  | .str _ => .str
  | .ints _ => .ints
def Rep0 (w : World) (v : Value) : D0 → Prop
  | .int n => v = .int .i64 n
  | .bool b => v = .bool b
  | .str s => v = .string s
  | .ints zs => ∃ p n c, v = .slice p n c ∧ IntsR w p n c zs
def Reps (w : World) : List Value → List D0 → Prop
  | [], [] => True
  | v :: vs, d :: ds => Rep0 w v d ∧ Reps w vs ds
  | _, _ => False
theorem Rep0.ext {w w' : World} {v : Value} {d : D0} (h : Rep0 w v d) (he : Ext w w') : Rep0 w' v d := by
  cases d <;> simp only [Rep0] at h ⊢ <;> try exact h
  obtain ⟨p, n, c, hv, hi⟩ := h
  exact ⟨p, n, c, hv, hi.ext he⟩
theorem Reps.ext {w w' : World} : ∀ {vs : List Value} {ds : List D0}, Reps w vs ds → Ext w w' → Reps w' vs ds
  | [], [], _, _ => trivial
  | [], _ :: _, h, _ => h.elim
  | _ :: _, [], h, _ => h.elim
  | _ :: _, _ :: _, h, he => ⟨h.1.ext he, Reps.ext h.2 he⟩
theorem Reps.len {w : World} : ∀ {vs : List Value} {ds : List D0}, Reps w vs ds → vs.length = ds.length
  | [], [], _ => rfl
  | [], _ :: _, h => h.elim
  | _ :: _, [], h => h.elim
  | _ :: _, _ :: _, h => by simp [Reps.len h.2]
theorem Reps.append {w : World} : ∀ {vs us : List Value} {ds es : List D0}, Reps w vs ds → Reps w us es → Reps w (vs ++ us) (ds ++ es)
  | [], _, [], _, _, k => k
  | [], _, _ :: _, _, h, _ => h.elim
  | _ :: _, _, [], _, h, _ => h.elim
  | _ :: _, _, _ :: _, _, h, k => ⟨h.1, Reps.append h.2 k⟩
theorem Reps.one {w : World} {vs : List Value} {ds : List D0} (h : Reps w vs ds) (h1 : ∀ v ∈ vs, v.oneCell' = true → True) : True := trivial
/-- every such cell is one cell -/
theorem Rep0.cell1 {w : World} {v : Value} {d : D0} (h : Rep0 w v d) : v.oneCell' = true := by
  cases d <;> simp only [Rep0] at h
  case ints l => obtain ⟨p, n, c, hv, _⟩ := h; rw [hv]; rfl
  all_goals (rw [h]; rfl)
theorem Reps.cells1 {w : World} : ∀ {vs : List Value} {ds : List D0}, Reps w vs ds → ∀ v ∈ vs, v.oneCell' = true
  | [], [], _, v, hv => by simp at hv
  | [], _ :: _, h, _, _ => h.elim
  | _ :: _, [], h, _, _ => h.elim
  | x :: xs, d :: ds, h, v, hv => by
    rcases List.mem_cons.1 hv with e | e
    · rw [e]; exact h.1.cell1
    · exact Reps.cells1 h.2 v e
/-- by its code, a list of cells comes written out -/
theorem Reps.int {w : World} {vs : List Value} {ds : List D0} {cs : List C0} (h : Reps w vs ds) (hc : ds.map D0.code = .int :: cs) : ∃ n us es, vs = .int .i64 n :: us ∧ ds = .int n :: es ∧ Reps w us es ∧ es.map D0.code = cs := by
  cases ds with
  | nil => simp at hc
  | cons d es =>
    cases vs with
    | nil => exact h.elim
    | cons v us =>
      simp only [List.map_cons, List.cons.injEq] at hc
      cases d <;> simp [D0.code] at hc
      rename_i n
      exact ⟨n, us, es, by rw [show v = _ from h.1], rfl, h.2, hc⟩
theorem Reps.bool {w : World} {vs : List Value} {ds : List D0} {cs : List C0} (h : Reps w vs ds) (hc : ds.map D0.code = .bool :: cs) : ∃ b us es, vs = .bool b :: us ∧ ds = .bool b :: es ∧ Reps w us es ∧ es.map D0.code = cs := by
  cases ds with
  | nil => simp at hc
  | cons d es =>
    cases vs with
    | nil => exact h.elim
    | cons v us =>
      simp only [List.map_cons, List.cons.injEq] at hc
      cases d <;> simp [D0.code] at hc
      rename_i n
      exact ⟨n, us, es, by rw [show v = _ from h.1], rfl, h.2, hc⟩
theorem Reps.str {w : World} {vs : List Value} {ds : List D0} {cs : List C0} (h : Reps w vs ds) (hc : ds.map D0.code = .str :: cs) : ∃ s us es, vs = .string s :: us ∧ ds = .str s :: es ∧ Reps w us es ∧ es.map D0.code = cs := by
  cases ds with
  | nil => simp at hc
  | cons d es =>
    cases vs with
    | nil => exact h.elim
    | cons v us =>
      simp only [List.map_cons, List.cons.injEq] at hc
      cases d <;> simp [D0.code] at hc
      rename_i n
      exact ⟨n, us, es, by rw [show v = _ from h.1], rfl, h.2, hc⟩
theorem Reps.ints {w : World} {vs : List Value} {ds : List D0} {cs : List C0} (h : Reps w vs ds) (hc : ds.map D0.code = .ints :: cs) :
    ∃ p n c zs us es, vs = .slice p n c :: us ∧ ds = .ints zs :: es ∧ IntsR w p n c zs ∧ Reps w us es ∧ es.map D0.code = cs := by
  cases ds with
  | nil => simp at hc
  | cons d es =>
    cases vs with
    | nil => exact h.elim
    | cons v us =>
      simp only [List.map_cons, List.cons.injEq] at hc
      cases d <;> simp [D0.code] at hc
      rename_i zs
      obtain ⟨p, n, c, hv, hi⟩ := h.1
      exact ⟨p, n, c, zs, us, es, by rw [hv], rfl, hi, h.2, hc⟩
theorem Reps.done {w : World} {vs : List Value} {ds : List D0} (h : Reps w vs ds) (hc : ds.map D0.code = []) : vs = [] ∧ ds = [] := by
  have : ds = [] := by simpa using hc
  subst this
  cases vs with
  | nil => exact ⟨rfl, rfl⟩
  | cons _ _ => exact h.elim
/-- a slice of structs of k cells -/
def RowsR (w : World) (k : Nat) (p : Option Addr) (n c : Nat) (l : List (List D0)) : Prop :=
  l.length = n ∧ n ≤ c ∧ c ≤ 9223372036854775807 ∧ (0 < n → ∃ b off, p = some ⟨b, off, none⟩ ∧ ∀ i x, l[i]? = some x → ∃ cs, cs.length = k ∧ Reps w cs x ∧ Seg w b (off + i * k) cs)
theorem RowsR.ext {w w' : World} {k : Nat} {p : Option Addr} {n c : Nat} {l : List (List D0)} (h : RowsR w k p n c l) (he : Ext w w') : RowsR w' k p n c l :=
  ⟨h.1, h.2.1, h.2.2.1, fun hn => let ⟨b, off, hp, hs⟩ := h.2.2.2 hn; ⟨b, off, hp, fun i x hx => let ⟨cs, h1, h2, h3⟩ := hs i x hx; ⟨cs, h1, h2.ext he, h3.ext he⟩⟩⟩
theorem RowsR.nil (w : World) (k : Nat) (p : Option Addr) {c : Nat} (hc : c ≤ 9223372036854775807) : RowsR w k p 0 c [] := ⟨rfl, Nat.zero_le _, hc, fun h => absurd h (by omega)⟩
/-- element i -/
theorem RowsR.at {P : Program} {w : World} {k : Nat} {p : Option Addr} {n c i : Nat} {l : List (List D0)} (h : RowsR w k p n c l) {t : TypeId} (ht : aggT P t k = true) (hi : i < n) :
    ∃ a cs, p = some a ∧ cs.length = k ∧ Reps w cs (l[i]'(by rw [h.1]; exact hi)) ∧ Loads P t (a.add (i * k)) (.agg ⟨cs⟩) w := by
  obtain ⟨b, off, hp, hs⟩ := h.2.2.2 (by omega)
  obtain ⟨cs, h1, h2, h3⟩ := hs i _ (List.getElem?_eq_getElem (by rw [h.1]; exact hi))
  refine ⟨_, cs, hp, h1, h2, ?_⟩
  rw [addr_add]
  exact loadsA (by rw [h1]; exact ht) h3
/-- how much there is of it -/
def D0.bulk : D0 → Nat
  | .str s => s.size
  | .ints l => l.length
  | _ => 0
def bulks (ds : List D0) : Nat := (ds.map D0.bulk).sum
theorem bulks_le {l : List (List D0)} {y : List D0} (h : y ∈ l) : bulks y ≤ (l.map bulks).sum := by
  induction l with
  | nil => simp at h
  | cons a r ih =>
    simp only [List.map_cons, List.sum_cons]
    rcases List.mem_cons.1 h with e | e
    · rw [e]; omega
    · have := ih e; omega
/-- what a reading says of sizes -/
def D0.ok : D0 → Prop
  | .int n => -9223372036854775808 ≤ n ∧ n ≤ 9223372036854775807
  | .str s => s.size ≤ 9223372036854775807
  | .ints l => l.length ≤ 9223372036854775807
  | .bool _ => True
end Go.Proofs.YteakifedfnnmeaaDoor.Sx

namespace Go.Proofs.YteakifedfnnmeaaDoor.Sx
open Go Go.RowKit
set_option linter.unusedVariables false
set_option linter.unusedSimpArgs false
section
variable {P : Program}
theorem Blk.load0 {w : World} {t : TypeId} {b k : Nat} {e : TypeId} {cs : List Value} {v : Value} (h : Blk w b e cs) (ht : cellT P t = true) (hx : cs[k]? = some v) : Loads P t ⟨b, k, none⟩ v w :=
  loads1 ht (by rw [h.cell]; exact hx)
theorem Blk.loadA0 {w : World} {t : TypeId} {b : Nat} {e : TypeId} {cs : List Value} (h : Blk w b e cs) (ht : aggT P t cs.length = true) : Loads P t ⟨b, 0, none⟩ (.agg ⟨cs⟩) w :=
  loadsA ht h.seg
theorem Blk.storeA0 {w : World} {t : TypeId} {b : Nat} {e : TypeId} {cs xs : List Value} (h : Blk w b e cs) (ht : aggT P t xs.length = true) (hk : xs.length = cs.length) (hv : ∀ v ∈ xs, v.oneCell' = true) :
    ∃ w', Stores P t ⟨b, 0, none⟩ (.agg ⟨xs⟩) w w' ∧ Blk w' b e xs ∧ Chg [b] w w' ∧ w'.heap.size = w.heap.size := by
  obtain ⟨w', h1, h2, h3, h4⟩ := h.storeA (P := P) (k := 0) ht (by omega) hv
  rw [addr_add, Nat.zero_add] at h1
  refine ⟨w', h1, ?_, h3, h4⟩
  rw [List.take_zero, List.nil_append, Nat.zero_add, hk, List.drop_length, List.append_nil] at h2
  exact h2
end
def Own0 (w : World) (B : Nat) (v : Value) : D0 → List Nat → Prop
  | .int n, f => v = .int .i64 n ∧ f = []
  | .bool b, f => v = .bool b ∧ f = []
  | .str s, f => v = .string s ∧ f = []
  | .ints zs, f => ∃ p n c, v = .slice p n c ∧ Own w B T_int 1 p n c (zs.map (Value.int .i64)) ∧ f = (p.map (·.block)).toList
def Owns (w : World) (B : Nat) : List Value → List D0 → List Nat → Prop
  | [], [], f => f = []
  | v :: vs, d :: ds, f => ∃ f1 f2, f = f1 ++ f2 ∧ Own0 w B v d f1 ∧ Owns w B vs ds f2
  | _, _, _ => False
theorem Own0.rep {w : World} {B : Nat} {v : Value} {d : D0} {f : List Nat} (h : Own0 w B v d f) : Rep0 w v d := by
  cases d <;> simp only [Own0] at h <;> simp only [Rep0]
  case ints zs => obtain ⟨p, n, c, hv, ho, _⟩ := h; exact ⟨p, n, c, hv, ho.ints⟩
  all_goals exact h.1
theorem Owns.reps {w : World} {B : Nat} : ∀ {vs : List Value} {ds : List D0} {f : List Nat}, Owns w B vs ds f → Reps w vs ds
  | [], [], _, _ => trivial
  | [], _ :: _, _, h => h.elim
  | _ :: _, [], _, h => h.elim
  | _ :: _, _ :: _, _, h => by
    obtain ⟨f1, f2, _, h1, h2⟩ := h
    exact ⟨h1.rep, Owns.reps h2⟩
theorem Own0.lt {w : World} {B : Nat} {v : Value} {d : D0} {f : List Nat} (h : Own0 w B v d f) : ∀ k ∈ f, B ≤ k ∧ k < w.heap.size := by
  cases d <;> simp only [Own0] at h
  case ints zs =>
    obtain ⟨p, n, c, hv, ho, hf⟩ := h
    intro k hk
    rw [hf] at hk
    exact World.ownsRow.lt ho k (by cases p <;> simp_all [Value.ownBlock])
  all_goals (intro k hk; rw [h.2] at hk; simp at hk)
theorem Owns.lt {w : World} {B : Nat} : ∀ {vs : List Value} {ds : List D0} {f : List Nat}, Owns w B vs ds f → ∀ k ∈ f, B ≤ k ∧ k < w.heap.size
  | [], [], _, h, k, hk => by rw [h] at hk; simp at hk
  | [], _ :: _, _, h, _, _ => h.elim
  | _ :: _, [], _, h, _, _ => h.elim
  | _ :: _, _ :: _, _, h, k, hk => by
    obtain ⟨f1, f2, rfl, h1, h2⟩ := h
    rcases List.mem_append.1 hk with hk | hk
    · exact h1.lt k hk
    · exact Owns.lt h2 k hk
theorem Own0.ext {w w' : World} {B : Nat} {v : Value} {d : D0} {f : List Nat} (h : Own0 w B v d f) (he : Ext w w') : Own0 w' B v d f := by
  cases d <;> simp only [Own0] at h ⊢ <;> try exact h
  obtain ⟨p, n, c, hv, ho, hf⟩ := h
  exact ⟨p, n, c, hv, ho.ext he, hf⟩
theorem Owns.ext {w w' : World} {B : Nat} : ∀ {vs : List Value} {ds : List D0} {f : List Nat}, Owns w B vs ds f → Ext w w' → Owns w' B vs ds f
  | [], [], _, h, _ => h
  | [], _ :: _, _, h, _ => h.elim
  | _ :: _, [], _, h, _ => h.elim
  | _ :: _, _ :: _, _, h, he => by
    obtain ⟨f1, f2, rfl, h1, h2⟩ := h
    exact ⟨f1, f2, rfl, h1.ext he, Owns.ext h2 he⟩
theorem Own.chg {S : List Nat} {w w' : World} {B : Nat} {e : TypeId} {size : Nat} {p : Option Addr} {n c : Nat} {xs : List Value} (h : Own w B e size p n c xs) (he : Chg S w w') (hS : ∀ k, p.map (·.block) = some k → k ∉ S) : Own w' B e size p n c xs := by
  refine ⟨h.1, ?_⟩
  rcases h.2 with h1 | ⟨g, cap, cur, h1, h2, h3, h4⟩
  · exact .inl h1
  · refine .inr ⟨g, cap, cur, h1, h2, ?_, h4⟩
    simp only [Value.slice.injEq] at h1
    rw [he.block g (Array.getElem?_eq_some_iff.1 h3).1 (hS g (by rw [h1.1]; rfl))]
    exact h3
theorem Own0.chg {S : List Nat} {w w' : World} {B : Nat} {v : Value} {d : D0} {f : List Nat} (h : Own0 w B v d f) (he : Chg S w w') (hS : ∀ k ∈ f, k ∉ S) : Own0 w' B v d f := by
  cases d <;> simp only [Own0] at h ⊢ <;> try exact h
  obtain ⟨p, n, c, hv, ho, hf⟩ := h
  exact ⟨p, n, c, hv, ho.chg he (fun k hk => hS k (by rw [hf, hk]; simp)), hf⟩
theorem Owns.chg {S : List Nat} {w w' : World} {B : Nat} : ∀ {vs : List Value} {ds : List D0} {f : List Nat}, Owns w B vs ds f → Chg S w w' → (∀ k ∈ f, k ∉ S) → Owns w' B vs ds f
  | [], [], _, h, _, _ => h
  | [], _ :: _, _, h, _, _ => h.elim
  | _ :: _, [], _, h, _, _ => h.elim
  | _ :: _, _ :: _, _, h, he, hS => by
    obtain ⟨f1, f2, rfl, h1, h2⟩ := h
    exact ⟨f1, f2, rfl, h1.chg he (fun k hk => hS k (by simp [hk])), Owns.chg h2 he (fun k hk => hS k (by simp [hk]))⟩
/-- blocks from B on are not touched where only older ones turn -/
theorem Owns.chg1 {r : Nat} {w w' : World} {B : Nat} {vs : List Value} {ds : List D0} {f : List Nat} (h : Owns w B vs ds f) (he : Chg [r] w w') (hr : r < B) : Owns w' B vs ds f :=
  h.chg he fun k hk hm => by
    have := (h.lt k hk).1
    simp at hm; omega
theorem Own0.mono {w : World} {B B' : Nat} {v : Value} {d : D0} {f : List Nat} (h : Own0 w B v d f) (hb : B' ≤ B) : Own0 w B' v d f := by
  cases d <;> simp only [Own0] at h ⊢ <;> try exact h
  obtain ⟨p, n, c, hv, ho, hf⟩ := h
  exact ⟨p, n, c, hv, ho.mono hb, hf⟩
theorem Owns.mono {w : World} {B B' : Nat} (hb : B' ≤ B) : ∀ {vs : List Value} {ds : List D0} {f : List Nat}, Owns w B vs ds f → Owns w B' vs ds f
  | [], [], _, h => h
  | [], _ :: _, _, h => h.elim
  | _ :: _, [], _, h => h.elim
  | _ :: _, _ :: _, _, h => by
    obtain ⟨f1, f2, rfl, h1, h2⟩ := h
    exact ⟨f1, f2, rfl, h1.mono hb, Owns.mono hb h2⟩
theorem Owns.append {w : World} {B : Nat} : ∀ {vs us : List Value} {ds es : List D0} {f g : List Nat}, Owns w B vs ds f → Owns w B us es g → Owns w B (vs ++ us) (ds ++ es) (f ++ g)
  | [], _, [], _, f, g, h, k => by rw [show f = [] from h]; exact k
  | [], _, _ :: _, _, _, _, h, _ => h.elim
  | _ :: _, _, [], _, _, _, h, _ => h.elim
  | _ :: _, _, _ :: _, _, _, g, h, k => by
    obtain ⟨f1, f2, rfl, h1, h2⟩ := h
    exact ⟨f1, f2 ++ g, by simp, h1, Owns.append h2 k⟩
theorem Owns.nil (w : World) (B : Nat) : Owns w B [] [] [] := rfl
theorem Owns.bool (w : World) (B : Nat) (b : Bool) : Owns w B [.bool b] [.bool b] [] := ⟨[], [], rfl, ⟨rfl, rfl⟩, rfl⟩
theorem Owns.int (w : World) (B : Nat) (n : Int) : Owns w B [.int .i64 n] [.int n] [] := ⟨[], [], rfl, ⟨rfl, rfl⟩, rfl⟩
theorem Owns.str (w : World) (B : Nat) (s : ByteArray) : Owns w B [.string s] [.str s] [] := ⟨[], [], rfl, ⟨rfl, rfl⟩, rfl⟩
theorem Owns.ints {w : World} {B : Nat} {p : Option Addr} {n c : Nat} {zs : List Int} (h : Own w B T_int 1 p n c (zs.map (Value.int .i64))) : Owns w B [.slice p n c] [.ints zs] (p.map (·.block)).toList :=
  ⟨_, [], by simp, ⟨p, n, c, rfl, h, rfl⟩, rfl⟩
/-- what is older ahead of what is newer: no block twice -/
theorem nodup_append {f g : List Nat} {m : Nat} (hf : f.Nodup) (hg : g.Nodup) (h1 : ∀ k ∈ f, k < m) (h2 : ∀ k ∈ g, m ≤ k) : (f ++ g).Nodup := by
  rw [List.nodup_append]
  exact ⟨hf, hg, fun a ha b hb e => by have := h1 a ha; have := h2 b hb; omega⟩
/-- a load at an address in whatever form -/
theorem Blk.loadAt {P : Program} {w : World} {t : TypeId} {b : Nat} {e : TypeId} {cs : List Value} {v : Value} {a : Addr} (k : Nat) (h : Blk w b e cs) (ha : a = ⟨b, k, none⟩) (ht : cellT P t = true) (hx : cs[k]? = some v) : Loads P t a v w := by
  subst ha; exact h.load0 ht hx
theorem Blk.loadAAt {P : Program} {w : World} {t : TypeId} {b : Nat} {e : TypeId} {cs : List Value} {a : Addr} (k : Nat) (xs : List Value) (h : Blk w b e cs) (ha : a = ⟨b, k, none⟩) (ht : aggT P t xs.length = true) (hx : (cs.drop k).take xs.length = xs) : Loads P t a (.agg ⟨xs⟩) w := by
  subst ha
  have := h.loadA (P := P) (k := k) ht hx
  rwa [addr_add, Nat.zero_add] at this
theorem Seg.loadAt {P : Program} {w : World} {t : TypeId} {b o : Nat} {cs : List Value} {v : Value} {a : Addr} (k : Nat) (h : Seg w b o cs) (ha : a = ⟨b, o + k, none⟩) (ht : cellT P t = true) (hx : cs[k]? = some v) : Loads P t a v w := by
  subst ha; exact loads1 ht (h _ _ hx)
theorem Seg.loadAAt {P : Program} {w : World} {t : TypeId} {b o : Nat} {cs : List Value} {a : Addr} (k : Nat) (xs : List Value) (h : Seg w b o cs) (ha : a = ⟨b, o + k, none⟩) (ht : aggT P t xs.length = true) (hx : (cs.drop k).take xs.length = xs) : Loads P t a (.agg ⟨xs⟩) w := by
  subst ha
  have := h.loadA (P := P) (k := k) ht hx
  rwa [addr_add] at this
/-- a new variable, filled at once -/
theorem New.fill {P : Program} {w w1 : World} {zs : List Value} {e : TypeId} {r : Nat} (hn : New w (.cells ⟨zs⟩ e (0, 0)) r w1) {t : TypeId} {xs : List Value} (hv : ∀ v ∈ xs, v.oneCell' = true) (ht : aggT P t xs.length = true) (hl : xs.length = zs.length) :
    ∃ w2, Stores P t ⟨r, 0, none⟩ (.agg ⟨xs⟩) w1 w2 ∧ Blk w2 r e xs ∧ Ext w w2 := by
  obtain ⟨w2, st, hb, ch, sz⟩ := hn.blk.storeA0 (P := P) (t := t) ht hl hv
  exact ⟨w2, st, hb, hn.ext.chg ch (by have := hn.r_eq; simp; omega)⟩
def AllO (w : World) (B k : Nat) : List (List Value) → List (List D0) → List (List Nat) → Prop
  | [], [], [] => True
  | cs :: css, x :: l, f :: fs => cs.length = k ∧ Owns w B cs x f ∧ AllO w B k css l fs
  | _, _, _ => False
theorem AllO.ext {w w' : World} {B k : Nat} : ∀ {css : List (List Value)} {l : List (List D0)} {fs : List (List Nat)}, AllO w B k css l fs → Ext w w' → AllO w' B k css l fs
  | [], [], [], _, _ => trivial
  | _ :: _, _ :: _, _ :: _, h, he => ⟨h.1, h.2.1.ext he, AllO.ext h.2.2 he⟩
  | [], [], _ :: _, h, _ => h.elim
  | [], _ :: _, _, h, _ => h.elim
  | _ :: _, [], _, h, _ => h.elim
  | _ :: _, _ :: _, [], h, _ => h.elim
theorem AllO.chg {S : List Nat} {w w' : World} {B k : Nat} : ∀ {css : List (List Value)} {l : List (List D0)} {fs : List (List Nat)}, AllO w B k css l fs → Chg S w w' → (∀ x ∈ fs.flatten, x ∉ S) → AllO w' B k css l fs
  | [], [], [], _, _, _ => trivial
  | _ :: _, _ :: _, _ :: _, h, he, hS => ⟨h.1, h.2.1.chg he (fun x hx => hS x (by simp [hx])), AllO.chg h.2.2 he (fun x hx => hS x (by rw [List.flatten_cons]; exact List.mem_append_right _ hx))⟩
  | [], [], _ :: _, h, _, _ => h.elim
  | [], _ :: _, _, h, _, _ => h.elim
  | _ :: _, [], _, h, _, _ => h.elim
  | _ :: _, _ :: _, [], h, _, _ => h.elim
theorem AllO.mono {w : World} {B B' k : Nat} (hb : B' ≤ B) : ∀ {css : List (List Value)} {l : List (List D0)} {fs : List (List Nat)}, AllO w B k css l fs → AllO w B' k css l fs
  | [], [], [], _ => trivial
  | _ :: _, _ :: _, _ :: _, h => ⟨h.1, h.2.1.mono hb, AllO.mono hb h.2.2⟩
  | [], [], _ :: _, h => h.elim
  | [], _ :: _, _, h => h.elim
  | _ :: _, [], _, h => h.elim
  | _ :: _, _ :: _, [], h => h.elim
theorem AllO.lt {w : World} {B k : Nat} : ∀ {css : List (List Value)} {l : List (List D0)} {fs : List (List Nat)}, AllO w B k css l fs → ∀ x ∈ fs.flatten, B ≤ x ∧ x < w.heap.size
  | [], [], [], _, x, hx => by simp at hx
  | _ :: _, _ :: _, _ :: _, h, x, hx => by
    rw [List.flatten_cons, List.mem_append] at hx
    rcases hx with hx | hx
    · exact h.2.1.lt x hx
    · exact AllO.lt h.2.2 x hx
  | [], [], _ :: _, h, _, _ => h.elim
  | [], _ :: _, _, h, _, _ => h.elim
  | _ :: _, [], _, h, _, _ => h.elim
  | _ :: _, _ :: _, [], h, _, _ => h.elim
theorem AllO.snoc {w : World} {B k : Nat} {cs : List Value} {x : List D0} {f : List Nat} (hk : cs.length = k) (ho : Owns w B cs x f) : ∀ {css : List (List Value)} {l : List (List D0)} {fs : List (List Nat)}, AllO w B k css l fs → AllO w B k (css ++ [cs]) (l ++ [x]) (fs ++ [f])
  | [], [], [], _ => ⟨hk, ho, trivial⟩
  | _ :: _, _ :: _, _ :: _, h => ⟨h.1, h.2.1, AllO.snoc hk ho h.2.2⟩
  | [], [], _ :: _, h => h.elim
  | [], _ :: _, _, h => h.elim
  | _ :: _, [], _, h => h.elim
  | _ :: _, _ :: _, [], h => h.elim
theorem AllO.len {w : World} {B k : Nat} : ∀ {css : List (List Value)} {l : List (List D0)} {fs : List (List Nat)}, AllO w B k css l fs → css.length = l.length ∧ css.flatten.length = l.length * k
  | [], [], [], _ => ⟨rfl, by simp⟩
  | cs :: css, x :: l, _ :: _, h => by
    have := AllO.len h.2.2
    refine ⟨by simp [this.1], ?_⟩
    rw [List.flatten_cons, List.length_append, this.2, h.1, List.length_cons, Nat.succ_mul, Nat.add_comm]
  | [], [], _ :: _, h => h.elim
  | [], _ :: _, _, h => h.elim
  | _ :: _, [], _, h => h.elim
  | _ :: _, _ :: _, [], h => h.elim
theorem AllO.cells1 {w : World} {B k : Nat} : ∀ {css : List (List Value)} {l : List (List D0)} {fs : List (List Nat)}, AllO w B k css l fs → ∀ v ∈ css.flatten, v.oneCell' = true
  | [], [], [], _, v, hv => by simp at hv
  | _ :: _, _ :: _, _ :: _, h, v, hv => by
    rw [List.flatten_cons, List.mem_append] at hv
    rcases hv with hv | hv
    · exact h.2.1.reps.cells1 v hv
    · exact AllO.cells1 h.2.2 v hv
  | [], [], _ :: _, h, _, _ => h.elim
  | [], _ :: _, _, h, _, _ => h.elim
  | _ :: _, [], _, h, _, _ => h.elim
  | _ :: _, _ :: _, [], h, _, _ => h.elim
theorem AllO.at {w : World} {B k : Nat} : ∀ {css : List (List Value)} {l : List (List D0)} {fs : List (List Nat)}, AllO w B k css l fs → ∀ i x, l[i]? = some x → ∃ cs, cs.length = k ∧ Reps w cs x ∧ (css.flatten.drop (i * k)).take k = cs
  | [], [], [], _, i, x, hx => by simp at hx
  | cs :: css, y :: l, _ :: _, h, i, x, hx => by
    cases i with
    | zero =>
      simp only [List.getElem?_cons_zero, Option.some.injEq] at hx
      subst hx
      refine ⟨cs, h.1, h.2.1.reps, ?_⟩
      rw [Nat.zero_mul, List.drop_zero, List.flatten_cons, ← h.1, List.take_left]
    | succ i =>
      simp only [List.getElem?_cons_succ] at hx
      obtain ⟨c, h1, h2, h3⟩ := AllO.at h.2.2 i x hx
      refine ⟨c, h1, h2, ?_⟩
      rw [List.flatten_cons, Nat.succ_mul, Nat.add_comm, ← List.drop_drop, ← h.1, List.drop_left, h.1]
      exact h3
  | [], [], _ :: _, h, _, _, _ => h.elim
  | [], _ :: _, _, h, _, _, _ => h.elim
  | _ :: _, [], _, h, _, _, _ => h.elim
  | _ :: _, _ :: _, [], h, _, _, _ => h.elim
/-- a slice of structs that is one's own, and the blocks that it takes -/
def OwnRows (w : World) (B : Nat) (e : TypeId) (k : Nat) (p : Option Addr) (n c : Nat) (l : List (List D0)) (f : List Nat) : Prop :=
  l.length = n ∧ ∃ css fs, AllO w B k css l fs ∧ Own w B e k p n c css.flatten ∧ f = (p.map (·.block)).toList ++ fs.flatten ∧ f.Nodup
theorem OwnRows.rows {w : World} {B : Nat} {e : TypeId} {k : Nat} {p : Option Addr} {n c : Nat} {l : List (List D0)} {f : List Nat} (h : OwnRows w B e k p n c l f) : RowsR w k p n c l := by
  obtain ⟨hl, css, fs, ha, ho, _, _⟩ := h
  refine ⟨hl, ho.le, ho.capLe, fun hn => ?_⟩
  obtain ⟨b, hp, _, hs⟩ := ho.seg hn
  refine ⟨b, 0, hp, fun i x hx => ?_⟩
  obtain ⟨cs, h1, h2, h3⟩ := ha.at i x hx
  exact ⟨cs, h1, h2, by rw [← h3]; exact (hs.drop (i * k)).take k⟩
theorem OwnRows.lt {w : World} {B : Nat} {e : TypeId} {k : Nat} {p : Option Addr} {n c : Nat} {l : List (List D0)} {f : List Nat} (h : OwnRows w B e k p n c l f) : ∀ x ∈ f, B ≤ x ∧ x < w.heap.size := by
  obtain ⟨hl, css, fs, ha, ho, rfl, _⟩ := h
  intro x hx
  rcases List.mem_append.1 hx with hx | hx
  · exact World.ownsRow.lt ho x (by cases p <;> simp_all [Value.ownBlock])
  · exact ha.lt x hx
theorem OwnRows.ext {w w' : World} {B : Nat} {e : TypeId} {k : Nat} {p : Option Addr} {n c : Nat} {l : List (List D0)} {f : List Nat} (h : OwnRows w B e k p n c l f) (he : Ext w w') : OwnRows w' B e k p n c l f := by
  obtain ⟨hl, css, fs, ha, ho, hf, hn⟩ := h
  exact ⟨hl, css, fs, ha.ext he, ho.ext he, hf, hn⟩
theorem OwnRows.mono {w : World} {B B' : Nat} {e : TypeId} {k : Nat} {p : Option Addr} {n c : Nat} {l : List (List D0)} {f : List Nat} (h : OwnRows w B e k p n c l f) (hb : B' ≤ B) : OwnRows w B' e k p n c l f := by
  obtain ⟨hl, css, fs, ha, ho, hf, hn⟩ := h
  exact ⟨hl, css, fs, ha.mono hb, ho.mono hb, hf, hn⟩
theorem OwnRows.chg {S : List Nat} {w w' : World} {B : Nat} {e : TypeId} {k : Nat} {p : Option Addr} {n c : Nat} {l : List (List D0)} {f : List Nat} (h : OwnRows w B e k p n c l f) (he : Chg S w w') (hS : ∀ x ∈ f, x ∉ S) : OwnRows w' B e k p n c l f := by
  obtain ⟨hl, css, fs, ha, ho, rfl, hn⟩ := h
  exact ⟨hl, css, fs, ha.chg he (fun x hx => hS x (List.mem_append_right _ hx)), ho.chg he (fun x hx => hS x (List.mem_append_left _ (by rw [hx]; simp))), rfl, hn⟩
/-- the row of a slice of structs while it is filled -/
theorem fill_row {xs cs : List Value} {css : List (List Value)} {j k n : Nat} (hl : xs.length = n * k) (ht : xs.take (j * k) = css.flatten) (hk : cs.length = k) (hj : j < n) :
    j * k + cs.length ≤ xs.length ∧ (xs.take (j * k) ++ cs ++ xs.drop (j * k + cs.length)).length = n * k ∧ (xs.take (j * k) ++ cs ++ xs.drop (j * k + cs.length)).take ((j + 1) * k) = (css ++ [cs]).flatten := by
  have h1 : (j + 1) * k ≤ n * k := Nat.mul_le_mul_right _ (by omega)
  have h2 : (j + 1) * k = j * k + k := Nat.succ_mul j k
  refine ⟨by omega, by simp; omega, ?_⟩
  have h3 : (xs.take (j * k) ++ cs).length = (j + 1) * k := by simp; omega
  rw [List.take_left' h3, ht]
  simp
theorem dec_no {p : Prop} [Decidable p] (h : ¬ p) : Value.bool false = Value.bool (decide p) := by simp [h]
theorem dec_yes {p : Prop} [Decidable p] (h : p) : Value.bool true = Value.bool (decide p) := by simp [h]
end Go.Proofs.YteakifedfnnmeaaDoor.Sx

namespace Go.Proofs.YteakifedfnnmeaaDoor
open Go Go.Proofs.YteakifedfnnmeaaDoor.Sx
set_option linter.unusedVariables false
set_option linter.unusedSimpArgs false
theorem take_set {α : Type} (l : List α) (d v : α) (k : Nat) (hk : k < l.length) (n : Nat) (hn : 0 < n) (h : l[k]? = some v) :
    (l.take k ++ List.replicate n d).set k v = l.take (k + 1) ++ List.replicate (n - 1) d := by
  have hlen : (l.take k).length = k := by simp; omega
  rw [List.set_append_right _ _ (by omega), hlen, Nat.sub_self]
  obtain ⟨m, rfl⟩ : ∃ m, n = m + 1 := ⟨n - 1, by omega⟩
  rw [List.replicate_succ, List.set_cons_zero, List.take_add_one, h]
  simp
theorem laws_toIntS_c {w : World} {p : Option Addr} {n c : Nat} {zs : List Int} (h : IntsR w p n c zs) (hn : n ≤ 1048576) :
    Ret P n_laws_toIntS [.slice p n c] w fun v w' => ∃ r, v = .slice (some ⟨r, 0, none⟩) n n ∧ Own w' w.heap.size T_int 1 (some ⟨r, 0, none⟩) n n (zs.map (Value.int .i64)) ∧ Ext w w' := by
  refine laws_toIntS_ret ?_
  unfold laws_toIntS
  refine ⟨⟨by omega, by omega, by omega⟩, fun r w1 hnew => ?_⟩
  have hlen := h.1
  refine ⟨fun i wr => ∃ k : Nat, i = k ∧ k ≤ n ∧ Ext w wr ∧ Blk wr r T_int ((zs.map (Value.int .i64)).take k ++ List.replicate (n - k) (Value.int .i64 0)), fun i _ => n - i.toNat, ⟨0, rfl, by omega, hnew.ext, ?_⟩, ?_⟩
  · have := hnew.blk
    rw [zeroRow_int, Nat.mul_one] at this
    simpa using this
  · intro junk wr i ⟨k, hik, hk, hx, hb⟩
    subst hik
    refine ifD (fun hlt => ?_) (fun hge => ?_)
    · have hlt' : k < n := by omega
      obtain ⟨a, rfl, hl⟩ := (h.ext hx).at (P := P) (t := T_int) (by kernel_rfl) hlt'
      have hl2 : ((zs.map (Value.int .i64)).take k ++ List.replicate (n - k) (Value.int .i64 0)).length = n := by simp; omega
      obtain ⟨w2, hst, hb2, hc, hs⟩ := hb.store (P := P) (t := T_int) (k := k) (v := .int .i64 (zs[k]'(by omega))) (by kernel_rfl) (by omega) rfl
      refine ⟨⟨by omega, by omega⟩, zs[k]'(by omega), by simpa using hl, ⟨by omega, by omega⟩, w2, by simpa using hst, exW ⟨by omega, by omega⟩ ⟨⟨k + 1, by omega, by omega, hx.chg hc (by simp; have := hnew.r_eq; omega), ?_⟩, by simp; omega⟩⟩
      rw [take_set _ _ _ _ (by simp; omega) _ (by omega) (by simp [show k < zs.length by omega])] at hb2
      rwa [show n - (k + 1) = n - k - 1 by omega]
    · have hkn : k = n := by omega
      subst hkn
      refine ⟨r, rfl, ?_, hx⟩
      rw [Nat.sub_self, List.replicate_zero, List.append_nil, List.take_of_length_le (by simp; omega)] at hb
      exact Own.of_blk hb (by have := hnew.r_eq; omega) (by simp; omega) (by simp only [maxLen]; omega)
theorem laws_szIntS_c {w : World} {p : Option Addr} {n c : Nat} {left : Int} (h0 : 0 ≤ left) (h1 : left ≤ 1048576) (hn : n ≤ 9223372036854775807) :
    Ret P n_laws_szIntS [.slice p n c, .int .i64 left] w fun v w' => ∃ r : Int, v = .int .i64 r ∧ (0 ≤ r → r + n ≤ left) ∧ r ≤ 1048576 ∧ Ext w w' := by
  refine laws_szIntS_ret ?_
  unfold laws_szIntS
  refine exW ⟨by omega, by omega⟩ (ifD (fun h => ⟨_, rfl, by omega, by omega, Ext.refl _⟩) (fun h => ⟨_, rfl, by omega, by omega, Ext.refl _⟩))
theorem laws_eqIntS_c {w : World} {p q : Option Addr} {n c m d : Nat} {zs ys : List Int} (h : IntsR w p n c zs) (k : IntsR w q m d ys) :
    Ret P n_laws_eqIntS [.slice p n c, .slice q m d] w fun v w' => v = .bool (decide (zs = ys)) ∧ Ext w w' := by
  refine laws_eqIntS_ret ?_
  unfold laws_eqIntS
  have hn : n ≤ 9223372036854775807 := Nat.le_trans h.2.1 h.2.2.1
  have hz := h.1
  have hy := k.1
  refine ifD (fun hne => ⟨?_, Ext.refl _⟩) (fun heq => ?_)
  · have : zs ≠ ys := fun e => hne (by rw [← hz, ← hy, e])
    simp [this]
  · have hnm : n = m := by omega
    refine ⟨fun i wr => ∃ j : Nat, i = j ∧ j ≤ n ∧ Ext w wr ∧ zs.take j = ys.take j, fun i _ => n - i.toNat, ⟨0, rfl, by omega, Ext.refl _, by simp⟩, ?_⟩
    intro junk wr i ⟨j, hij, hj, hx, he⟩
    subst hij
    refine ifD (fun hlt => ?_) (fun hge => ⟨?_, hx⟩)
    · have hjn : j < n := by omega
      have hx' := hx.trans (Ext.drew wr)
      obtain ⟨a, hpa, _⟩ := (h.ext hx').at (P := P) (t := T_int) (by kernel_rfl) hjn
      obtain ⟨b, hqb, _⟩ := (k.ext hx').at (P := P) (t := T_int) (by kernel_rfl) (show j < m by omega)
      subst hpa
      subst hqb
      have l1 : ∀ w', Ext wr.drew w' → Loads P T_int (a.add ((j : Int).toNat * 1)) (.int .i64 (zs[j]'(by omega))) w' := fun w' hw => by
        obtain ⟨a', ha, hl⟩ := ((h.ext hx').ext hw).at (P := P) (t := T_int) (by kernel_rfl) hjn
        cases ha
        simpa using hl
      have l2 : ∀ w', Ext wr.drew w' → Loads P T_int (b.add ((j : Int).toNat * 1)) (.int .i64 (ys[j]'(by omega))) w' := fun w' hw => by
        obtain ⟨a', ha, hl⟩ := ((k.ext hx').ext hw).at (P := P) (t := T_int) (by kernel_rfl) (show j < m by omega)
        cases ha
        simpa using hl
      refine ⟨⟨by omega, by omega⟩, _, l1, ⟨by omega, by omega⟩, _, l2, ifD (fun hne => ⟨?_, hx'⟩) (fun heq2 => ?_)⟩
      · have : zs ≠ ys := fun e => hne (by subst e; rfl)
        simp [this]
      · refine exW ⟨by omega, by omega⟩ ⟨⟨j + 1, by omega, by omega, hx', ?_⟩, by simp; omega⟩
        have e2 : zs[j]'(by omega) = ys[j]'(by omega) := by simpa using heq2
        rw [List.take_add_one, List.take_add_one, he, List.getElem?_eq_getElem (by omega), List.getElem?_eq_getElem (by omega), e2]
    · have hjn : j = n := by omega
      subst hjn
      rw [List.take_of_length_le (by omega), List.take_of_length_le (by omega)] at he
      simp [he]
end Go.Proofs.YteakifedfnnmeaaDoor

namespace Go.Proofs.YteakifedfnnmeaaDoor
open Go Go.Proofs.YteakifedfnnmeaaDoor.Sx
set_option linter.unusedVariables false
set_option linter.unusedSimpArgs false
theorem open_Signed {w : World} {vs : List Value} {ds : List D0} (h : Reps w vs ds) (hc : ds.map D0.code = [.bool, .ints]) :
    ∃ (a0 : Bool) (a1p : Option Addr) (a1n a1c : Nat) (a1z : List Int), vs = [.bool a0, .slice a1p a1n a1c] ∧ ds = [.bool a0, .ints a1z] ∧ IntsR w a1p a1n a1c a1z := by
  obtain ⟨b0, us, es, hv, hd, h2, hc2⟩ := h.bool hc
  subst hv; subst hd
  clear h hc
  have h := h2; have hc := hc2; clear h2 hc2
  obtain ⟨b1p, b1n, b1c, b1z, us, es, hv, hd, b1h, h2, hc2⟩ := h.ints hc
  subst hv; subst hd
  clear h hc
  have h := h2; have hc := hc2; clear h2 hc2
  obtain ⟨hv, hd⟩ := h.done hc
  subst hv; subst hd; clear h hc
  exact ⟨_, _, _, _, _, rfl, rfl, b1h⟩
theorem laws_szSigned_c {w : World} {vs : List Value} {ds : List D0} (h : Reps w vs ds) (hc : ds.map D0.code = [.bool, .ints]) (hok : ∀ d ∈ ds, d.ok) {left : Int} (h0 : 0 ≤ left) (h1 : left ≤ 1048576) :
    Ret P n_laws_szSigned [.agg ⟨vs⟩, .int .i64 left] w fun v w' => ∃ r : Int, v = .int .i64 r ∧ (0 ≤ r → r + bulks ds ≤ left) ∧ r ≤ 1048576 ∧ Ext w w' := by
  obtain ⟨a0, us, es, hv, hd, h2, hc2⟩ := h.bool hc
  subst hv; subst hd
  clear h hc
  have h := h2; have hc := hc2; clear h2 hc2
  obtain ⟨a1p, a1n, a1c, a1z, us, es, hv, hd, a1h, h2, hc2⟩ := h.ints hc
  subst hv; subst hd
  clear h hc
  have h := h2; have hc := hc2; clear h2 hc2
  obtain ⟨hv, hd⟩ := h.done hc
  subst hv; subst hd; clear h hc
  simp only [List.mem_cons, List.not_mem_nil, or_false, forall_eq_or_imp, forall_eq, D0.ok] at hok
  have a1l := a1h.1; have a1k := a1h.2.1; have a1m := a1h.2.2.1
  simp only [bulks, D0.bulk, List.map_cons, List.map_nil, List.sum_cons, List.sum_nil]
  refine laws_szSigned_ret ?_
  unfold laws_szSigned
  intro r w1 hn1
  have x := hn1.ext; have b0 := hn1.blk
  refine ⟨_, _, _, b0.load (by kernel_rfl) rfl, ?_⟩
  refine Ret.at (laws_szIntS_c (by omega) (by omega) (by omega)) ?_
  rintro v w2 ⟨k0, hv, hk0, hm0, y⟩
  subst hv
  have x := x.trans y; have b0 := b0.ext y
  refine ⟨_, rfl, ifD (fun hl => ⟨_, rfl, by omega, by omega, x⟩) (fun hl => ?_)⟩
  exact ⟨_, rfl, by omega, by omega, x⟩
theorem laws_toSigned_c {w : World} {vs : List Value} {ds : List D0} (h : Reps w vs ds) (hc : ds.map D0.code = [.bool, .ints]) (hb : bulks ds ≤ 1048576) :
    Ret P n_laws_toSigned [.agg ⟨vs⟩] w fun v w' => ∃ vs' f, v = .agg ⟨vs'⟩ ∧ Owns w' w.heap.size vs' ds f ∧ f.Nodup ∧ Ext w w' := by
  obtain ⟨a0, us, es, hv, hd, h2, hc2⟩ := h.bool hc
  subst hv; subst hd
  clear h hc
  have h := h2; have hc := hc2; clear h2 hc2
  obtain ⟨a1p, a1n, a1c, a1z, us, es, hv, hd, a1h, h2, hc2⟩ := h.ints hc
  subst hv; subst hd
  clear h hc
  have h := h2; have hc := hc2; clear h2 hc2
  obtain ⟨hv, hd⟩ := h.done hc
  subst hv; subst hd; clear h hc
  simp only [bulks, D0.bulk, List.map_cons, List.map_nil, List.sum_cons, List.sum_nil] at hb
  have a1l := a1h.1
  refine laws_toSigned_ret ?_
  unfold laws_toSigned
  intro r w1 hn1 r1 w2 hn2 r2 w3 hn3
  have x := (hn1.ext.trans hn2.ext).trans hn3.ext
  have b0 := (hn1.blk.ext hn2.ext).ext hn3.ext
  have b1 := hn2.blk.ext hn3.ext
  have b2 := hn3.blk
  have e1 := hn1.r_eq; have e2 := hn2.r_eq; have e3 := hn3.r_eq; have s1 := hn1.size; have s2 := hn2.size; have s3 := hn3.size
  obtain ⟨w4, st, b2', ch, sz⟩ := b2.store (P := P) (t := T_bool) (k := 0) (v := .bool a0) (by kernel_rfl) (by simp) rfl
  refine ⟨_, b0.load (by kernel_rfl) rfl, _, st, ?_⟩
  have x := x.chg ch (by simp; omega); have b0 := b0.chg ch (by simp; omega); have b1 := b1.chg ch (by simp; omega)
  have b2 : Blk w4 r2 _ [.bool a0, .slice none 0 0] := b2'
  clear b2'
  refine ⟨_, _, _, b0.load (by kernel_rfl) rfl, ?_⟩
  refine Ret.at (laws_toIntS_c (a1h.ext x) (by omega)) ?_
  rintro v w5 ⟨q0, hv, o0, y⟩
  subst hv
  refine ⟨_, _, _, rfl, ?_⟩
  have o0 := Owns.ints o0
  have l0 : ∀ k ∈ _, k < w5.heap.size := fun k hk => (o0.lt k hk).2
  have nd0 : ([q0] : List Nat).Nodup := by simp
  have y0 := y.le; have b0 := b0.ext y; have b1 := b1.ext y; have b2 := b2.ext y; have x := x.trans y
  obtain ⟨w6, st, b2', ch, sz⟩ := b2.store (P := P) (t := T_s_int) (k := 1) (v := .slice (some ⟨q0, 0, none⟩) a1n a1n) (by kernel_rfl) (by simp) rfl
  refine ⟨_, st, ?_⟩
  have x := x.chg ch (by simp; omega); have b0 := b0.chg ch (by simp; omega); have b1 := b1.chg ch (by simp; omega)
  have b2 : Blk w6 r2 _ [.bool a0, .slice (some ⟨q0, 0, none⟩) a1n a1n] := b2'
  clear b2'
  have o0 := o0.chg1 ch (by omega)
  refine ⟨_, _, _, _, b2.loadA0 (by kernel_rfl), ?_⟩
  have ow : Owns w6 w.heap.size [.bool a0, .slice (some ⟨q0, 0, none⟩) a1n a1n] [.bool a0, .ints a1z] ([] ++ [q0]) := Owns.append (Owns.bool _ _ a0) (o0.mono (by omega))
  obtain ⟨w7, st, b1', ch, sz⟩ := b1.storeA0 (P := P) (t := T_impl_Signed) (xs := [.bool a0, .slice (some ⟨q0, 0, none⟩) a1n a1n]) (by kernel_rfl) rfl ow.reps.cells1
  refine ⟨_, st, _, _, _, _, b1'.loadA0 (by kernel_rfl), [.bool a0, .slice (some ⟨q0, 0, none⟩) a1n a1n], ([] ++ [q0]), rfl, Owns.append (Owns.bool _ _ a0) ((o0.chg1 ch (by omega)).mono (by omega)), ?_, x.chg ch (by simp; omega)⟩
  try simp only [List.nil_append, List.append_nil]
  exact nd0
theorem laws_eqSigned_c {w : World} {xs ys : List Value} {dx dy : List D0} (h : Reps w xs dx) (k : Reps w ys dy) (hc : dx.map D0.code = [.bool, .ints]) (kc : dy.map D0.code = [.bool, .ints]) :
    Ret P n_laws_eqSigned [.agg ⟨xs⟩, .agg ⟨ys⟩] w fun v w' => v = .bool (decide (dx = dy)) ∧ Ext w w' := by
  obtain ⟨a0, us, es, hv, hd, h2, hc2⟩ := h.bool hc
  subst hv; subst hd
  clear h hc
  have h := h2; have hc := hc2; clear h2 hc2
  obtain ⟨a1p, a1n, a1c, a1z, us, es, hv, hd, a1h, h2, hc2⟩ := h.ints hc
  subst hv; subst hd
  clear h hc
  have h := h2; have hc := hc2; clear h2 hc2
  obtain ⟨hv, hd⟩ := h.done hc
  subst hv; subst hd; clear h hc
  obtain ⟨bb0, us, es, hv, hd, k2, kc2⟩ := k.bool kc
  subst hv; subst hd
  clear k kc
  have k := k2; have kc := kc2; clear k2 kc2
  obtain ⟨bb1p, bb1n, bb1c, bb1z, us, es, hv, hd, bb1h, k2, kc2⟩ := k.ints kc
  subst hv; subst hd
  clear k kc
  have k := k2; have kc := kc2; clear k2 kc2
  obtain ⟨hv, hd⟩ := k.done kc
  subst hv; subst hd; clear k kc
  refine laws_eqSigned_ret ?_
  unfold laws_eqSigned
  intro r w1 hn1 r1 w2 hn2
  have x := hn1.ext.trans hn2.ext
  have b0 := hn1.blk.ext hn2.ext
  have b1 := hn2.blk
  refine ⟨_, b0.load (by kernel_rfl) rfl, _, b1.load (by kernel_rfl) rfl, ?_⟩
  refine ifN (fun hne => ⟨dec_no (fun e => ?_), x⟩) (fun heq => ?_)
  · have e2 := congrArg (fun l : List D0 => (l.drop 0).take 1) e
    simp at e2; simp [e2] at hne
  have heq : a0 = bb0 := by simpa using heq
  subst heq
  refine ⟨_, _, _, b0.load (by kernel_rfl) rfl, _, _, _, b1.load (by kernel_rfl) rfl, ?_⟩
  refine Ret.at (laws_eqIntS_c (a1h.ext x) (bb1h.ext x)) ?_
  rintro v w3 ⟨hv, y⟩
  subst hv
  have x := x.trans y; have b0 := b0.ext y; have b1 := b1.ext y
  refine ⟨_, rfl, ifN (fun hne => ⟨dec_no (fun e => ?_), x⟩) (fun heq => ?_)⟩
  · have e2 := congrArg (fun l : List D0 => (l.drop 1).take 1) e
    have hne := of_decide_eq_false hne; simp at e2; exact hne e2
  have heq := of_decide_eq_true heq
  subst heq
  exact ⟨dec_yes rfl, x⟩
theorem open_Money {w : World} {vs : List Value} {ds : List D0} (h : Reps w vs ds) (hc : ds.map D0.code = [.str, .bool, .ints]) :
    ∃ (a0 : ByteArray) (a1 : Bool) (a2p : Option Addr) (a2n a2c : Nat) (a2z : List Int), vs = [.string a0, .bool a1, .slice a2p a2n a2c] ∧ ds = [.str a0, .bool a1, .ints a2z] ∧ IntsR w a2p a2n a2c a2z := by
  obtain ⟨b0, us, es, hv, hd, h2, hc2⟩ := h.str hc
  subst hv; subst hd
  clear h hc
  have h := h2; have hc := hc2; clear h2 hc2
  obtain ⟨b1, us, es, hv, hd, h2, hc2⟩ := h.bool hc
  subst hv; subst hd
  clear h hc
  have h := h2; have hc := hc2; clear h2 hc2
  obtain ⟨b2p, b2n, b2c, b2z, us, es, hv, hd, b2h, h2, hc2⟩ := h.ints hc
  subst hv; subst hd
  clear h hc
  have h := h2; have hc := hc2; clear h2 hc2
  obtain ⟨hv, hd⟩ := h.done hc
  subst hv; subst hd; clear h hc
  exact ⟨_, _, _, _, _, _, rfl, rfl, b2h⟩
theorem laws_szMoney_c {w : World} {vs : List Value} {ds : List D0} (h : Reps w vs ds) (hc : ds.map D0.code = [.str, .bool, .ints]) (hok : ∀ d ∈ ds, d.ok) {left : Int} (h0 : 0 ≤ left) (h1 : left ≤ 1048576) :
    Ret P n_laws_szMoney [.agg ⟨vs⟩, .int .i64 left] w fun v w' => ∃ r : Int, v = .int .i64 r ∧ (0 ≤ r → r + bulks ds ≤ left) ∧ r ≤ 1048576 ∧ Ext w w' := by
  obtain ⟨a0, us, es, hv, hd, h2, hc2⟩ := h.str hc
  subst hv; subst hd
  clear h hc
  have h := h2; have hc := hc2; clear h2 hc2
  obtain ⟨a1, us, es, hv, hd, h2, hc2⟩ := h.bool hc
  subst hv; subst hd
  clear h hc
  have h := h2; have hc := hc2; clear h2 hc2
  obtain ⟨a2p, a2n, a2c, a2z, us, es, hv, hd, a2h, h2, hc2⟩ := h.ints hc
  subst hv; subst hd
  clear h hc
  have h := h2; have hc := hc2; clear h2 hc2
  obtain ⟨hv, hd⟩ := h.done hc
  subst hv; subst hd; clear h hc
  simp only [List.mem_cons, List.not_mem_nil, or_false, forall_eq_or_imp, forall_eq, D0.ok] at hok
  have a2l := a2h.1; have a2k := a2h.2.1; have a2m := a2h.2.2.1
  simp only [bulks, D0.bulk, List.map_cons, List.map_nil, List.sum_cons, List.sum_nil]
  refine laws_szMoney_ret ?_
  unfold laws_szMoney
  intro r w1 hn1
  have x := hn1.ext; have b0 := hn1.blk
  refine ⟨_, b0.load (by kernel_rfl) rfl, exW ⟨by omega, by omega⟩ (ifD (fun hl => ⟨_, rfl, by omega, by omega, x⟩) (fun hl => ?_))⟩
  have hr : Reps w [.bool a1, .slice a2p a2n a2c] [.bool a1, .ints a2z] := ⟨rfl, ⟨⟨_, _, _, rfl, a2h⟩, trivial⟩⟩
  refine ⟨_, _, _, _, b0.loadA (xs := [.bool a1, .slice a2p a2n a2c]) (by kernel_rfl) rfl, ?_⟩
  refine Ret.at (laws_szSigned_c (hr.ext x) rfl (by simp only [List.mem_cons, List.not_mem_nil, or_false, forall_eq_or_imp, forall_eq, D0.ok]; simp only [hok, and_self]) (by omega) (by omega)) ?_
  rintro v w2 ⟨k0, hv, hk0, hm0, y⟩
  simp only [bulks, D0.bulk, List.map_cons, List.map_nil, List.sum_cons, List.sum_nil] at hk0
  subst hv
  have x := x.trans y; have b0 := b0.ext y
  refine ⟨_, rfl, ifD (fun hl => ⟨_, rfl, by omega, by omega, x⟩) (fun hl => ?_)⟩
  exact ⟨_, rfl, by omega, by omega, x⟩
theorem laws_toMoney_c {w : World} {vs : List Value} {ds : List D0} (h : Reps w vs ds) (hc : ds.map D0.code = [.str, .bool, .ints]) (hb : bulks ds ≤ 1048576) :
    Ret P n_laws_toMoney [.agg ⟨vs⟩] w fun v w' => ∃ vs' f, v = .agg ⟨vs'⟩ ∧ Owns w' w.heap.size vs' ds f ∧ f.Nodup ∧ Ext w w' := by
  obtain ⟨a0, us, es, hv, hd, h2, hc2⟩ := h.str hc
  subst hv; subst hd
  clear h hc
  have h := h2; have hc := hc2; clear h2 hc2
  obtain ⟨a1, us, es, hv, hd, h2, hc2⟩ := h.bool hc
  subst hv; subst hd
  clear h hc
  have h := h2; have hc := hc2; clear h2 hc2
  obtain ⟨a2p, a2n, a2c, a2z, us, es, hv, hd, a2h, h2, hc2⟩ := h.ints hc
  subst hv; subst hd
  clear h hc
  have h := h2; have hc := hc2; clear h2 hc2
  obtain ⟨hv, hd⟩ := h.done hc
  subst hv; subst hd; clear h hc
  simp only [bulks, D0.bulk, List.map_cons, List.map_nil, List.sum_cons, List.sum_nil] at hb
  have a2l := a2h.1
  refine laws_toMoney_ret ?_
  unfold laws_toMoney
  intro r w1 hn1 r1 w2 hn2 r2 w3 hn3
  have x := (hn1.ext.trans hn2.ext).trans hn3.ext
  have b0 := (hn1.blk.ext hn2.ext).ext hn3.ext
  have b1 := hn2.blk.ext hn3.ext
  have b2 := hn3.blk
  have e1 := hn1.r_eq; have e2 := hn2.r_eq; have e3 := hn3.r_eq; have s1 := hn1.size; have s2 := hn2.size; have s3 := hn3.size
  obtain ⟨w4, st, b2', ch, sz⟩ := b2.store (P := P) (t := T_string) (k := 0) (v := .string a0) (by kernel_rfl) (by simp) rfl
  refine ⟨_, b0.load (by kernel_rfl) rfl, _, st, ?_⟩
  have x := x.chg ch (by simp; omega); have b0 := b0.chg ch (by simp; omega); have b1 := b1.chg ch (by simp; omega)
  have b2 : Blk w4 r2 _ [.string a0, .bool false, .slice none 0 0] := b2'
  clear b2'
  have hr : Reps w [.bool a1, .slice a2p a2n a2c] [.bool a1, .ints a2z] := ⟨rfl, ⟨⟨_, _, _, rfl, a2h⟩, trivial⟩⟩
  refine ⟨_, _, _, _, b0.loadA (xs := [.bool a1, .slice a2p a2n a2c]) (by kernel_rfl) rfl, ?_⟩
  refine Ret.at (laws_toSigned_c (hr.ext x) rfl (by simp only [bulks, D0.bulk, List.map_cons, List.map_nil, List.sum_cons, List.sum_nil]; omega)) ?_
  rintro v w5 ⟨us0, f0, hv, o0, nd0, y⟩
  subst hv
  have hq := o0.reps; have hqc : ([.bool a1, .ints a2z] : List D0).map D0.code = [.bool, .ints] := rfl
  obtain ⟨q00, us, es, hv, hd, hq2, hqc2⟩ := hq.bool hqc
  subst hv; cases hd; clear hq hqc; have hq := hq2; have hqc := hqc2; clear hq2 hqc2
  obtain ⟨q01p, q01n, q01c, q01z, us, es, hv, hd, q01h, hq2, hqc2⟩ := hq.ints hqc
  subst hv; cases hd; clear hq hqc; have hq := hq2; have hqc := hqc2; clear hq2 hqc2
  obtain ⟨hv, _⟩ := hq.done hqc; subst hv; clear hq hqc
  refine ⟨_, _, _, _, rfl, ?_⟩
  have l0 : ∀ k ∈ _, k < w5.heap.size := fun k hk => (o0.lt k hk).2
  have y0 := y.le; have b0 := b0.ext y; have b1 := b1.ext y; have b2 := b2.ext y; have x := x.trans y
  obtain ⟨w6, st, b2', ch, sz⟩ := b2.storeA (P := P) (t := T_impl_Signed) (k := 1) (xs := [.bool a1, .slice q01p q01n q01c]) (by kernel_rfl) (by simp) o0.reps.cells1
  refine ⟨_, st, ?_⟩
  have x := x.chg ch (by simp; omega); have b0 := b0.chg ch (by simp; omega); have b1 := b1.chg ch (by simp; omega)
  have b2 : Blk w6 r2 _ [.string a0, .bool a1, .slice q01p q01n q01c] := b2'
  clear b2'
  have o0 := o0.chg1 ch (by omega)
  refine ⟨_, _, _, _, _, b2.loadA0 (by kernel_rfl), ?_⟩
  have ow : Owns w6 w.heap.size [.string a0, .bool a1, .slice q01p q01n q01c] [.str a0, .bool a1, .ints a2z] ([] ++ f0) := Owns.append (Owns.str _ _ a0) (o0.mono (by omega))
  obtain ⟨w7, st, b1', ch, sz⟩ := b1.storeA0 (P := P) (t := T_impl_Money) (xs := [.string a0, .bool a1, .slice q01p q01n q01c]) (by kernel_rfl) rfl ow.reps.cells1
  refine ⟨_, st, _, _, _, _, _, b1'.loadA0 (by kernel_rfl), [.string a0, .bool a1, .slice q01p q01n q01c], ([] ++ f0), rfl, Owns.append (Owns.str _ _ a0) ((o0.chg1 ch (by omega)).mono (by omega)), ?_, x.chg ch (by simp; omega)⟩
  try simp only [List.nil_append, List.append_nil]
  exact nd0
theorem laws_eqMoney_c {w : World} {xs ys : List Value} {dx dy : List D0} (h : Reps w xs dx) (k : Reps w ys dy) (hc : dx.map D0.code = [.str, .bool, .ints]) (kc : dy.map D0.code = [.str, .bool, .ints]) :
    Ret P n_laws_eqMoney [.agg ⟨xs⟩, .agg ⟨ys⟩] w fun v w' => v = .bool (decide (dx = dy)) ∧ Ext w w' := by
  obtain ⟨a0, us, es, hv, hd, h2, hc2⟩ := h.str hc
  subst hv; subst hd
  clear h hc
  have h := h2; have hc := hc2; clear h2 hc2
  obtain ⟨a1, us, es, hv, hd, h2, hc2⟩ := h.bool hc
  subst hv; subst hd
  clear h hc
  have h := h2; have hc := hc2; clear h2 hc2
  obtain ⟨a2p, a2n, a2c, a2z, us, es, hv, hd, a2h, h2, hc2⟩ := h.ints hc
  subst hv; subst hd
  clear h hc
  have h := h2; have hc := hc2; clear h2 hc2
  obtain ⟨hv, hd⟩ := h.done hc
  subst hv; subst hd; clear h hc
  obtain ⟨bb0, us, es, hv, hd, k2, kc2⟩ := k.str kc
  subst hv; subst hd
  clear k kc
  have k := k2; have kc := kc2; clear k2 kc2
  obtain ⟨bb1, us, es, hv, hd, k2, kc2⟩ := k.bool kc
  subst hv; subst hd
  clear k kc
  have k := k2; have kc := kc2; clear k2 kc2
  obtain ⟨bb2p, bb2n, bb2c, bb2z, us, es, hv, hd, bb2h, k2, kc2⟩ := k.ints kc
  subst hv; subst hd
  clear k kc
  have k := k2; have kc := kc2; clear k2 kc2
  obtain ⟨hv, hd⟩ := k.done kc
  subst hv; subst hd; clear k kc
  refine laws_eqMoney_ret ?_
  unfold laws_eqMoney
  intro r w1 hn1 r1 w2 hn2
  have x := hn1.ext.trans hn2.ext
  have b0 := hn1.blk.ext hn2.ext
  have b1 := hn2.blk
  refine ⟨_, b0.load (by kernel_rfl) rfl, _, b1.load (by kernel_rfl) rfl, ?_⟩
  refine ifD (fun hne => ⟨dec_no (fun e => ?_), x⟩) (fun heq => ?_)
  · have e2 := congrArg (fun l : List D0 => (l.drop 0).take 1) e
    simp at e2; exact hne e2
  have heq : a0 = bb0 := by simpa using heq
  subst heq
  have ha : Reps w [.bool a1, .slice a2p a2n a2c] [.bool a1, .ints a2z] := ⟨rfl, ⟨⟨_, _, _, rfl, a2h⟩, trivial⟩⟩
  have hb : Reps w [.bool bb1, .slice bb2p bb2n bb2c] [.bool bb1, .ints bb2z] := ⟨rfl, ⟨⟨_, _, _, rfl, bb2h⟩, trivial⟩⟩
  refine ⟨_, _, _, _, b0.loadA (xs := [.bool a1, .slice a2p a2n a2c]) (by kernel_rfl) rfl, _, _, _, _, b1.loadA (xs := [.bool bb1, .slice bb2p bb2n bb2c]) (by kernel_rfl) rfl, ?_⟩
  refine Ret.at (laws_eqSigned_c (ha.ext x) (hb.ext x) rfl rfl) ?_
  rintro v w3 ⟨hv, y⟩
  subst hv
  have x := x.trans y; have b0 := b0.ext y; have b1 := b1.ext y
  refine ⟨_, rfl, ifN (fun hne => ⟨dec_no (fun e => ?_), x⟩) (fun heq => ?_)⟩
  · have e2 := congrArg (fun l : List D0 => (l.drop 1).take 2) e
    exact of_decide_eq_false hne e2
  have heq := of_decide_eq_true heq
  cases heq
  exact ⟨dec_yes rfl, x⟩
theorem open_Acct {w : World} {vs : List Value} {ds : List D0} (h : Reps w vs ds) (hc : ds.map D0.code = [.str, .str, .bool, .ints]) :
    ∃ (a0 : ByteArray) (a1 : ByteArray) (a2 : Bool) (a3p : Option Addr) (a3n a3c : Nat) (a3z : List Int), vs = [.string a0, .string a1, .bool a2, .slice a3p a3n a3c] ∧ ds = [.str a0, .str a1, .bool a2, .ints a3z] ∧ IntsR w a3p a3n a3c a3z := by
  obtain ⟨b0, us, es, hv, hd, h2, hc2⟩ := h.str hc
  subst hv; subst hd
  clear h hc
  have h := h2; have hc := hc2; clear h2 hc2
  obtain ⟨b1, us, es, hv, hd, h2, hc2⟩ := h.str hc
  subst hv; subst hd
  clear h hc
  have h := h2; have hc := hc2; clear h2 hc2
  obtain ⟨b2, us, es, hv, hd, h2, hc2⟩ := h.bool hc
  subst hv; subst hd
  clear h hc
  have h := h2; have hc := hc2; clear h2 hc2
  obtain ⟨b3p, b3n, b3c, b3z, us, es, hv, hd, b3h, h2, hc2⟩ := h.ints hc
  subst hv; subst hd
  clear h hc
  have h := h2; have hc := hc2; clear h2 hc2
  obtain ⟨hv, hd⟩ := h.done hc
  subst hv; subst hd; clear h hc
  exact ⟨_, _, _, _, _, _, _, rfl, rfl, b3h⟩
theorem laws_szAcct_c {w : World} {vs : List Value} {ds : List D0} (h : Reps w vs ds) (hc : ds.map D0.code = [.str, .str, .bool, .ints]) (hok : ∀ d ∈ ds, d.ok) {left : Int} (h0 : 0 ≤ left) (h1 : left ≤ 1048576) :
    Ret P n_laws_szAcct [.agg ⟨vs⟩, .int .i64 left] w fun v w' => ∃ r : Int, v = .int .i64 r ∧ (0 ≤ r → r + bulks ds ≤ left) ∧ r ≤ 1048576 ∧ Ext w w' := by
  obtain ⟨a0, us, es, hv, hd, h2, hc2⟩ := h.str hc
  subst hv; subst hd
  clear h hc
  have h := h2; have hc := hc2; clear h2 hc2
  obtain ⟨a1, us, es, hv, hd, h2, hc2⟩ := h.str hc
  subst hv; subst hd
  clear h hc
  have h := h2; have hc := hc2; clear h2 hc2
  obtain ⟨a2, us, es, hv, hd, h2, hc2⟩ := h.bool hc
  subst hv; subst hd
  clear h hc
  have h := h2; have hc := hc2; clear h2 hc2
  obtain ⟨a3p, a3n, a3c, a3z, us, es, hv, hd, a3h, h2, hc2⟩ := h.ints hc
  subst hv; subst hd
  clear h hc
  have h := h2; have hc := hc2; clear h2 hc2
  obtain ⟨hv, hd⟩ := h.done hc
  subst hv; subst hd; clear h hc
  simp only [List.mem_cons, List.not_mem_nil, or_false, forall_eq_or_imp, forall_eq, D0.ok] at hok
  have a3l := a3h.1; have a3k := a3h.2.1; have a3m := a3h.2.2.1
  simp only [bulks, D0.bulk, List.map_cons, List.map_nil, List.sum_cons, List.sum_nil]
  refine laws_szAcct_ret ?_
  unfold laws_szAcct
  intro r w1 hn1
  have x := hn1.ext; have b0 := hn1.blk
  refine ⟨_, b0.load (by kernel_rfl) rfl, exW ⟨by omega, by omega⟩ (ifD (fun hl => ⟨_, rfl, by omega, by omega, x⟩) (fun hl => ?_))⟩
  have hr : Reps w [.string a1, .bool a2, .slice a3p a3n a3c] [.str a1, .bool a2, .ints a3z] := ⟨rfl, ⟨rfl, ⟨⟨_, _, _, rfl, a3h⟩, trivial⟩⟩⟩
  refine ⟨_, _, _, _, _, b0.loadA (xs := [.string a1, .bool a2, .slice a3p a3n a3c]) (by kernel_rfl) rfl, ?_⟩
  refine Ret.at (laws_szMoney_c (hr.ext x) rfl (by simp only [List.mem_cons, List.not_mem_nil, or_false, forall_eq_or_imp, forall_eq, D0.ok]; simp only [hok, and_self]) (by omega) (by omega)) ?_
  rintro v w2 ⟨k0, hv, hk0, hm0, y⟩
  simp only [bulks, D0.bulk, List.map_cons, List.map_nil, List.sum_cons, List.sum_nil] at hk0
  subst hv
  have x := x.trans y; have b0 := b0.ext y
  refine ⟨_, rfl, ifD (fun hl => ⟨_, rfl, by omega, by omega, x⟩) (fun hl => ?_)⟩
  exact ⟨_, rfl, by omega, by omega, x⟩
theorem laws_toAcct_c {w : World} {vs : List Value} {ds : List D0} (h : Reps w vs ds) (hc : ds.map D0.code = [.str, .str, .bool, .ints]) (hb : bulks ds ≤ 1048576) :
    Ret P n_laws_toAcct [.agg ⟨vs⟩] w fun v w' => ∃ vs' f, v = .agg ⟨vs'⟩ ∧ Owns w' w.heap.size vs' ds f ∧ f.Nodup ∧ Ext w w' := by
  obtain ⟨a0, us, es, hv, hd, h2, hc2⟩ := h.str hc
  subst hv; subst hd
  clear h hc
  have h := h2; have hc := hc2; clear h2 hc2
  obtain ⟨a1, us, es, hv, hd, h2, hc2⟩ := h.str hc
  subst hv; subst hd
  clear h hc
  have h := h2; have hc := hc2; clear h2 hc2
  obtain ⟨a2, us, es, hv, hd, h2, hc2⟩ := h.bool hc
  subst hv; subst hd
  clear h hc
  have h := h2; have hc := hc2; clear h2 hc2
  obtain ⟨a3p, a3n, a3c, a3z, us, es, hv, hd, a3h, h2, hc2⟩ := h.ints hc
  subst hv; subst hd
  clear h hc
  have h := h2; have hc := hc2; clear h2 hc2
  obtain ⟨hv, hd⟩ := h.done hc
  subst hv; subst hd; clear h hc
  simp only [bulks, D0.bulk, List.map_cons, List.map_nil, List.sum_cons, List.sum_nil] at hb
  have a3l := a3h.1
  refine laws_toAcct_ret ?_
  unfold laws_toAcct
  intro r w1 hn1 r1 w2 hn2 r2 w3 hn3
  have x := (hn1.ext.trans hn2.ext).trans hn3.ext
  have b0 := (hn1.blk.ext hn2.ext).ext hn3.ext
  have b1 := hn2.blk.ext hn3.ext
  have b2 := hn3.blk
  have e1 := hn1.r_eq; have e2 := hn2.r_eq; have e3 := hn3.r_eq; have s1 := hn1.size; have s2 := hn2.size; have s3 := hn3.size
  obtain ⟨w4, st, b2', ch, sz⟩ := b2.store (P := P) (t := T_string) (k := 0) (v := .string a0) (by kernel_rfl) (by simp) rfl
  refine ⟨_, b0.load (by kernel_rfl) rfl, _, st, ?_⟩
  have x := x.chg ch (by simp; omega); have b0 := b0.chg ch (by simp; omega); have b1 := b1.chg ch (by simp; omega)
  have b2 : Blk w4 r2 _ [.string a0, .string ByteArray.empty, .bool false, .slice none 0 0] := b2'
  clear b2'
  have hr : Reps w [.string a1, .bool a2, .slice a3p a3n a3c] [.str a1, .bool a2, .ints a3z] := ⟨rfl, ⟨rfl, ⟨⟨_, _, _, rfl, a3h⟩, trivial⟩⟩⟩
  refine ⟨_, _, _, _, _, b0.loadA (xs := [.string a1, .bool a2, .slice a3p a3n a3c]) (by kernel_rfl) rfl, ?_⟩
  refine Ret.at (laws_toMoney_c (hr.ext x) rfl (by simp only [bulks, D0.bulk, List.map_cons, List.map_nil, List.sum_cons, List.sum_nil]; omega)) ?_
  rintro v w5 ⟨us0, f0, hv, o0, nd0, y⟩
  subst hv
  have hq := o0.reps; have hqc : ([.str a1, .bool a2, .ints a3z] : List D0).map D0.code = [.str, .bool, .ints] := rfl
  obtain ⟨q00, us, es, hv, hd, hq2, hqc2⟩ := hq.str hqc
  subst hv; cases hd; clear hq hqc; have hq := hq2; have hqc := hqc2; clear hq2 hqc2
  obtain ⟨q01, us, es, hv, hd, hq2, hqc2⟩ := hq.bool hqc
  subst hv; cases hd; clear hq hqc; have hq := hq2; have hqc := hqc2; clear hq2 hqc2
  obtain ⟨q02p, q02n, q02c, q02z, us, es, hv, hd, q02h, hq2, hqc2⟩ := hq.ints hqc
  subst hv; cases hd; clear hq hqc; have hq := hq2; have hqc := hqc2; clear hq2 hqc2
  obtain ⟨hv, _⟩ := hq.done hqc; subst hv; clear hq hqc
  refine ⟨_, _, _, _, _, rfl, ?_⟩
  have l0 : ∀ k ∈ _, k < w5.heap.size := fun k hk => (o0.lt k hk).2
  have y0 := y.le; have b0 := b0.ext y; have b1 := b1.ext y; have b2 := b2.ext y; have x := x.trans y
  obtain ⟨w6, st, b2', ch, sz⟩ := b2.storeA (P := P) (t := T_impl_Money) (k := 1) (xs := [.string a1, .bool a2, .slice q02p q02n q02c]) (by kernel_rfl) (by simp) o0.reps.cells1
  refine ⟨_, st, ?_⟩
  have x := x.chg ch (by simp; omega); have b0 := b0.chg ch (by simp; omega); have b1 := b1.chg ch (by simp; omega)
  have b2 : Blk w6 r2 _ [.string a0, .string a1, .bool a2, .slice q02p q02n q02c] := b2'
  clear b2'
  have o0 := o0.chg1 ch (by omega)
  refine ⟨_, _, _, _, _, _, b2.loadA0 (by kernel_rfl), ?_⟩
  have ow : Owns w6 w.heap.size [.string a0, .string a1, .bool a2, .slice q02p q02n q02c] [.str a0, .str a1, .bool a2, .ints a3z] ([] ++ f0) := Owns.append (Owns.str _ _ a0) (o0.mono (by omega))
  obtain ⟨w7, st, b1', ch, sz⟩ := b1.storeA0 (P := P) (t := T_impl_Acct) (xs := [.string a0, .string a1, .bool a2, .slice q02p q02n q02c]) (by kernel_rfl) rfl ow.reps.cells1
  refine ⟨_, st, _, _, _, _, _, _, b1'.loadA0 (by kernel_rfl), [.string a0, .string a1, .bool a2, .slice q02p q02n q02c], ([] ++ f0), rfl, Owns.append (Owns.str _ _ a0) ((o0.chg1 ch (by omega)).mono (by omega)), ?_, x.chg ch (by simp; omega)⟩
  try simp only [List.nil_append, List.append_nil]
  exact nd0
theorem laws_eqAcct_c {w : World} {xs ys : List Value} {dx dy : List D0} (h : Reps w xs dx) (k : Reps w ys dy) (hc : dx.map D0.code = [.str, .str, .bool, .ints]) (kc : dy.map D0.code = [.str, .str, .bool, .ints]) :
    Ret P n_laws_eqAcct [.agg ⟨xs⟩, .agg ⟨ys⟩] w fun v w' => v = .bool (decide (dx = dy)) ∧ Ext w w' := by
  obtain ⟨a0, us, es, hv, hd, h2, hc2⟩ := h.str hc
  subst hv; subst hd
  clear h hc
  have h := h2; have hc := hc2; clear h2 hc2
  obtain ⟨a1, us, es, hv, hd, h2, hc2⟩ := h.str hc
  subst hv; subst hd
  clear h hc
  have h := h2; have hc := hc2; clear h2 hc2
  obtain ⟨a2, us, es, hv, hd, h2, hc2⟩ := h.bool hc
  subst hv; subst hd
  clear h hc
  have h := h2; have hc := hc2; clear h2 hc2
  obtain ⟨a3p, a3n, a3c, a3z, us, es, hv, hd, a3h, h2, hc2⟩ := h.ints hc
  subst hv; subst hd
  clear h hc
  have h := h2; have hc := hc2; clear h2 hc2
  obtain ⟨hv, hd⟩ := h.done hc
  subst hv; subst hd; clear h hc
  obtain ⟨bb0, us, es, hv, hd, k2, kc2⟩ := k.str kc
  subst hv; subst hd
  clear k kc
  have k := k2; have kc := kc2; clear k2 kc2
  obtain ⟨bb1, us, es, hv, hd, k2, kc2⟩ := k.str kc
  subst hv; subst hd
  clear k kc
  have k := k2; have kc := kc2; clear k2 kc2
  obtain ⟨bb2, us, es, hv, hd, k2, kc2⟩ := k.bool kc
  subst hv; subst hd
  clear k kc
  have k := k2; have kc := kc2; clear k2 kc2
  obtain ⟨bb3p, bb3n, bb3c, bb3z, us, es, hv, hd, bb3h, k2, kc2⟩ := k.ints kc
  subst hv; subst hd
  clear k kc
  have k := k2; have kc := kc2; clear k2 kc2
  obtain ⟨hv, hd⟩ := k.done kc
  subst hv; subst hd; clear k kc
  refine laws_eqAcct_ret ?_
  unfold laws_eqAcct
  intro r w1 hn1 r1 w2 hn2
  have x := hn1.ext.trans hn2.ext
  have b0 := hn1.blk.ext hn2.ext
  have b1 := hn2.blk
  refine ⟨_, b0.load (by kernel_rfl) rfl, _, b1.load (by kernel_rfl) rfl, ?_⟩
  refine ifD (fun hne => ⟨dec_no (fun e => ?_), x⟩) (fun heq => ?_)
  · have e2 := congrArg (fun l : List D0 => (l.drop 0).take 1) e
    simp at e2; exact hne e2
  have heq : a0 = bb0 := by simpa using heq
  subst heq
  have ha : Reps w [.string a1, .bool a2, .slice a3p a3n a3c] [.str a1, .bool a2, .ints a3z] := ⟨rfl, ⟨rfl, ⟨⟨_, _, _, rfl, a3h⟩, trivial⟩⟩⟩
  have hb : Reps w [.string bb1, .bool bb2, .slice bb3p bb3n bb3c] [.str bb1, .bool bb2, .ints bb3z] := ⟨rfl, ⟨rfl, ⟨⟨_, _, _, rfl, bb3h⟩, trivial⟩⟩⟩
  refine ⟨_, _, _, _, _, b0.loadA (xs := [.string a1, .bool a2, .slice a3p a3n a3c]) (by kernel_rfl) rfl, _, _, _, _, _, b1.loadA (xs := [.string bb1, .bool bb2, .slice bb3p bb3n bb3c]) (by kernel_rfl) rfl, ?_⟩
  refine Ret.at (laws_eqMoney_c (ha.ext x) (hb.ext x) rfl rfl) ?_
  rintro v w3 ⟨hv, y⟩
  subst hv
  have x := x.trans y; have b0 := b0.ext y; have b1 := b1.ext y
  refine ⟨_, rfl, ifN (fun hne => ⟨dec_no (fun e => ?_), x⟩) (fun heq => ?_)⟩
  · have e2 := congrArg (fun l : List D0 => (l.drop 1).take 3) e
    exact of_decide_eq_false hne e2
  have heq := of_decide_eq_true heq
  cases heq
  exact ⟨dec_yes rfl, x⟩
theorem laws_szAcctS_c {w : World} {p : Option Addr} {n c : Nat} {l : List (List D0)} (h : RowsR w 4 p n c l) (hc : ∀ x ∈ l, x.map D0.code = [.str, .str, .bool, .ints]) (hok : ∀ x ∈ l, ∀ d ∈ x, d.ok) {left : Int} (h0 : 0 ≤ left) (h1 : left ≤ 1048576) :
    Ret P n_laws_szAcctS [.slice p n c, .int .i64 left] w fun v w' => ∃ r : Int, v = .int .i64 r ∧ (0 ≤ r → r + n + ((l.map bulks).sum : Nat) ≤ left) ∧ r ≤ 1048576 ∧ Ext w w' := by
  refine laws_szAcctS_ret ?_
  unfold laws_szAcctS
  have hlen := h.1; have hcap := h.2.1; have hcm := h.2.2.1
  refine exW ⟨by omega, by omega⟩ (ifD (fun hl => ⟨_, rfl, by omega, by omega, Ext.refl _⟩) (fun hl => ?_))
  refine ⟨fun lf i wr => ∃ j : Nat, i = j ∧ j ≤ n ∧ Ext w wr ∧ 0 ≤ lf ∧ lf ≤ 1048576 ∧ lf + n + (((l.take j).map bulks).sum : Nat) ≤ left, fun _ i _ => n - i.toNat, ⟨0, rfl, by omega, Ext.refl _, by omega, by omega, by simp <;> omega⟩, ?_⟩
  intro junk wr lf i ⟨j, hij, hj, hx, hl0, hl1, hle⟩
  subst hij
  refine ifD (fun hlt => ?_) (fun hge => ?_)
  · have hjn : j < n := by omega
    obtain ⟨a, cs, hp, hk, hr, hld⟩ := (h.ext hx).at (P := P) (t := T_laws_Acct) (by kernel_rfl) hjn
    subst hp
    have hjl : j < l.length := by omega
    have hm : l[j] ∈ l := List.getElem_mem hjl
    have hcode := hc _ hm
    have hrr := hr
    obtain ⟨a0, us, esa0, hv, hd, hrx, hcodex⟩ := hr.str hcode
    subst hv; clear hd
    obtain ⟨a1, us, esa1, hv, hd, hrxx, hcodexx⟩ := hrx.str hcodex
    subst hv; clear hd
    obtain ⟨a2, us, esa2, hv, hd, hrxxx, hcodexxx⟩ := hrxx.bool hcodexx
    subst hv; clear hd
    obtain ⟨a3p, a3n, a3c, a3z, us, esa3, hv, hd, a3h, hrxxxx, hcodexxxx⟩ := hrxxx.ints hcodexxx
    subst hv; clear hd
    obtain ⟨hv, hd⟩ := hrxxxx.done hcodexxxx
    subst hv; clear hd
    refine ⟨⟨by omega, by omega⟩, _, _, _, _, _, _, by simpa using hld, ?_⟩
    refine Ret.at (laws_szAcct_c hrr (hc _ hm) (hok _ hm) hl0 hl1) ?_
    rintro v w2 ⟨t, hv, ht, htm, hy⟩
    subst hv
    refine ⟨_, rfl, ifD (fun hl => ⟨_, rfl, by omega, by omega, hx.trans hy⟩) (fun hl => ?_)⟩
    refine exW ⟨by omega, by omega⟩ ⟨⟨j + 1, by omega, by omega, hx.trans hy, by omega, by omega, ?_⟩, by simp; omega⟩
    rw [List.take_add_one, List.getElem?_eq_getElem hjl]
    have := ht (by omega)
    simp only [Option.toList_some, List.map_append, List.map_cons, List.map_nil, List.sum_append, List.sum_cons, List.sum_nil]
    omega
  · have hjn : j = n := by omega
    subst hjn
    rw [List.take_of_length_le (by omega)] at hle
    exact ⟨_, rfl, by omega, by omega, hx⟩
theorem laws_toAcctS_c {w : World} {p : Option Addr} {n c : Nat} {l : List (List D0)} (h : RowsR w 4 p n c l) (hc : ∀ x ∈ l, x.map D0.code = [.str, .str, .bool, .ints]) (hn : n ≤ 1048576) (hb : ∀ x ∈ l, bulks x ≤ 1048576) :
    Ret P n_laws_toAcctS [.slice p n c] w fun v w' => ∃ p' c' f, v = .slice p' n c' ∧ OwnRows w' w.heap.size T_impl_Acct 4 p' n c' l f ∧ Ext w w' := by
  refine laws_toAcctS_ret ?_
  unfold laws_toAcctS
  refine ⟨⟨by omega, by omega, by omega⟩, fun r w1 hnew => ?_⟩
  have hlen := h.1; have er := hnew.r_eq; have es := hnew.size
  refine ⟨fun i wr => ∃ (j : Nat) (css : List (List Value)) (fs : List (List Nat)) (xs : List Value), i = j ∧ j ≤ n ∧ Ext w wr ∧ w1.heap.size ≤ wr.heap.size ∧ AllO wr w1.heap.size 4 css (l.take j) fs ∧ fs.flatten.Nodup ∧ Blk wr r T_impl_Acct xs ∧ xs.length = n * 4 ∧ xs.take (j * 4) = css.flatten, fun i _ => n - i.toNat, ⟨0, [], [], _, rfl, by omega, hnew.ext, Nat.le_refl _, trivial, List.nodup_nil, hnew.blk, by simp [zeroRow], by simp⟩, ?_⟩
  intro junk wr i ⟨j, css, fs, xs, hij, hj, hx, hsz, ha, hnd, hbk, hxl, hxt⟩
  subst hij
  refine ifD (fun hlt => ?_) (fun hge => ?_)
  · have hjn : j < n := by omega
    obtain ⟨a, cs, hp, hk, hr, hl⟩ := (h.ext hx).at (P := P) (t := T_laws_Acct) (by kernel_rfl) hjn
    subst hp
    have hjl : j < l.length := by omega
    have hm : l[j] ∈ l := List.getElem_mem hjl
    have hcode := hc _ hm; have hbl := hb _ hm
    have hrr := hr
    obtain ⟨a0, us, esa0, hv, hd, hrx, hcodex⟩ := hr.str hcode
    subst hv; clear hd
    obtain ⟨a1, us, esa1, hv, hd, hrxx, hcodexx⟩ := hrx.str hcodex
    subst hv; clear hd
    obtain ⟨a2, us, esa2, hv, hd, hrxxx, hcodexxx⟩ := hrxx.bool hcodexx
    subst hv; clear hd
    obtain ⟨a3p, a3n, a3c, a3z, us, esa3, hv, hd, a3h, hrxxxx, hcodexxxx⟩ := hrxxx.ints hcodexxx
    subst hv; clear hd
    obtain ⟨hv, hd⟩ := hrxxxx.done hcodexxxx
    subst hv; clear hd
    refine ⟨⟨by omega, by omega⟩, _, _, _, _, _, _, by simpa using hl, ?_⟩
    refine Ret.at (laws_toAcct_c hrr (hc _ hm) hbl) ?_
    rintro v w2 ⟨vs, f, hv, ho, hnf, hy⟩
    subst hv
    have ho2 := ho.reps; have hoc := hc _ hm
    obtain ⟨b0, us, esb0, hv, hd, ho2x, hocx⟩ := ho2.str hoc
    subst hv; clear hd
    obtain ⟨b1, us, esb1, hv, hd, ho2xx, hocxx⟩ := ho2x.str hocx
    subst hv; clear hd
    obtain ⟨b2, us, esb2, hv, hd, ho2xxx, hocxxx⟩ := ho2xx.bool hocxx
    subst hv; clear hd
    obtain ⟨b3p, b3n, b3c, b3z, us, esb3, hv, hd, b3h, ho2xxxx, hocxxxx⟩ := ho2xxx.ints hocxxx
    subst hv; clear hd
    obtain ⟨hv, hd⟩ := ho2xxxx.done hocxxxx
    subst hv; clear hd
    have hcl : ([.string b0, .string b1, .bool b2, .slice b3p b3n b3c] : List Value).length = 4 := rfl
    have hfr := fill_row hxl hxt hcl hjn
    obtain ⟨w3, hst, hb3, hch, hs3⟩ := (hbk.ext hy).storeA (P := P) (t := T_impl_Acct) (k := j * 4) (by kernel_rfl) hfr.1 ho.reps.cells1
    have hrf : ∀ q ∈ f, q ∉ [r] := fun q hq hm => by have := (ho.lt q hq).1; simp at hm; omega
    have hrs : ∀ q ∈ fs.flatten, q ∉ [r] := fun q hq hm => by have := (ha.lt q hq).1; simp at hm; omega
    refine ⟨_, _, _, _, _, _, rfl, ⟨by omega, by omega⟩, w3, by simpa using hst, exW ⟨by omega, by omega⟩ ⟨⟨j + 1, css ++ [[.string b0, .string b1, .bool b2, .slice b3p b3n b3c]], fs ++ [f], _, by omega, by omega, (hx.trans hy).chg hch (by simp; omega), by have := hy.le; omega, ?_, ?_, hb3, hfr.2.1, hfr.2.2⟩, by simp; omega⟩⟩
    · rw [List.take_add_one, List.getElem?_eq_getElem hjl]
      exact ((ha.ext hy).chg hch hrs).snoc hcl ((ho.mono hsz).chg hch hrf)
    · rw [List.flatten_append]
      exact nodup_append (m := wr.heap.size) hnd (by simpa using hnf) (fun q hq => (ha.lt q hq).2) (fun q hq => (ho.lt q (by simpa using hq)).1)
  · have hjn : j = n := by omega
    subst hjn
    rw [List.take_of_length_le (by omega)] at ha hxt
    subst hxt
    refine ⟨_, _, _, rfl, ⟨by omega, css, fs, ha.mono (by omega), Own.of_blk hbk (by omega) hxl (by simp only [maxLen]; omega), rfl, ?_⟩, hx⟩
    refine nodup_append (m := w1.heap.size) (by simp) hnd (fun q hq => ?_) (fun q hq => (ha.lt q hq).1)
    simp at hq; omega
theorem laws_eqAcctS_c {w : World} {p q : Option Addr} {n c m d : Nat} {l s : List (List D0)} (h : RowsR w 4 p n c l) (k : RowsR w 4 q m d s) (hc : ∀ x ∈ l, x.map D0.code = [.str, .str, .bool, .ints]) (kc : ∀ x ∈ s, x.map D0.code = [.str, .str, .bool, .ints]) :
    Ret P n_laws_eqAcctS [.slice p n c, .slice q m d] w fun v w' => v = .bool (decide (l = s)) ∧ Ext w w' := by
  refine laws_eqAcctS_ret ?_
  unfold laws_eqAcctS
  have hz := h.1; have hy := k.1; have hcap := h.2.1; have hcm := h.2.2.1
  refine ifD (fun hne => ⟨dec_no (fun e => hne (by rw [← hz, ← hy, e])), Ext.refl _⟩) (fun heq => ?_)
  have hnm : n = m := by omega
  refine ⟨fun i wr => ∃ j : Nat, i = j ∧ j ≤ n ∧ Ext w wr ∧ l.take j = s.take j, fun i _ => n - i.toNat, ⟨0, rfl, by omega, Ext.refl _, by simp⟩, ?_⟩
  intro junk wr i ⟨j, hij, hj, hx, he⟩
  subst hij
  refine ifD (fun hlt => ?_) (fun hge => ⟨?_, hx⟩)
  · have hjn : j < n := by omega
    have hx' := hx.trans (Ext.drew wr)
    have hjl : j < l.length := by omega
    have hjs : j < s.length := by omega
    obtain ⟨kb1, ko1, hp, hs1⟩ := (h.ext hx').2.2.2 (by omega)
    obtain ⟨cs, hk, hr, hg1⟩ := hs1 j _ (List.getElem?_eq_getElem hjl)
    obtain ⟨kb2, ko2, hq, hs2⟩ := (k.ext hx').2.2.2 (by omega)
    obtain ⟨ds, hk2, hr2, hg2⟩ := hs2 j _ (List.getElem?_eq_getElem hjs)
    subst hp; subst hq
    have hrr := hr; have hrr2 := hr2
    have hc1 := hc _ (List.getElem_mem hjl); have hc2 := kc _ (List.getElem_mem hjs)
    obtain ⟨a0, us, esa0, hv, hd, hrx, hc1x⟩ := hr.str hc1
    subst hv; clear hd
    obtain ⟨a1, us, esa1, hv, hd, hrxx, hc1xx⟩ := hrx.str hc1x
    subst hv; clear hd
    obtain ⟨a2, us, esa2, hv, hd, hrxxx, hc1xxx⟩ := hrxx.bool hc1xx
    subst hv; clear hd
    obtain ⟨a3p, a3n, a3c, a3z, us, esa3, hv, hd, a3h, hrxxxx, hc1xxxx⟩ := hrxxx.ints hc1xxx
    subst hv; clear hd
    obtain ⟨hv, hd⟩ := hrxxxx.done hc1xxxx
    subst hv; clear hd
    obtain ⟨b0, us, esb0, hv, hd, hr2x, hc2x⟩ := hr2.str hc2
    subst hv; clear hd
    obtain ⟨b1, us, esb1, hv, hd, hr2xx, hc2xx⟩ := hr2x.str hc2x
    subst hv; clear hd
    obtain ⟨b2, us, esb2, hv, hd, hr2xxx, hc2xxx⟩ := hr2xx.bool hc2xx
    subst hv; clear hd
    obtain ⟨b3p, b3n, b3c, b3z, us, esb3, hv, hd, b3h, hr2xxxx, hc2xxxx⟩ := hr2xxx.ints hc2xxx
    subst hv; clear hd
    obtain ⟨hv, hd⟩ := hr2xxxx.done hc2xxxx
    subst hv; clear hd
    have l1 : ∀ w', Ext wr.drew w' → Loads P T_impl_Acct ((⟨kb1, ko1, none⟩ : Addr).add ((j : Int).toNat * 4)) (.agg ⟨[.string a0, .string a1, .bool a2, .slice a3p a3n a3c]⟩) w' := fun w' hw => by
      rw [addr_add]; exact loadsA (by kernel_rfl) (by simpa using hg1.ext hw)
    have l2 : ∀ w', Ext wr.drew w' → Loads P T_impl_Acct ((⟨kb2, ko2, none⟩ : Addr).add ((j : Int).toNat * 4)) (.agg ⟨[.string b0, .string b1, .bool b2, .slice b3p b3n b3c]⟩) w' := fun w' hw => by
      rw [addr_add]; exact loadsA (by kernel_rfl) (by simpa using hg2.ext hw)
    refine ⟨⟨by omega, by omega⟩, _, _, _, _, _, _, l1, ⟨by omega, by omega⟩, _, _, _, _, _, _, l2, ?_⟩
    refine Ret.at (laws_eqAcct_c hrr hrr2 (hc _ (List.getElem_mem hjl)) (kc _ (List.getElem_mem hjs))) ?_
    rintro v w2 ⟨hv, hy2⟩
    subst hv
    refine ⟨_, rfl, ifN (fun hne => ⟨dec_no (fun e => ?_), hx'.trans hy2⟩) (fun heq2 => ?_)⟩
    · exact of_decide_eq_false hne (by subst e; rfl)
    · have e2 := of_decide_eq_true heq2
      refine exW ⟨by omega, by omega⟩ ⟨⟨j + 1, by omega, by omega, hx'.trans hy2, ?_⟩, by simp; omega⟩
      rw [List.take_add_one, List.take_add_one, he, List.getElem?_eq_getElem hjl, List.getElem?_eq_getElem hjs, e2]
  · have hjn : j = n := by omega
    subst hjn
    rw [List.take_of_length_le (by omega), List.take_of_length_le (by omega)] at he
    exact dec_yes he
end Go.Proofs.YteakifedfnnmeaaDoor
