/-
  The frame-free forms of some Go functions, printed by a program of mine; each with the theorem that it is sound.
-/
import Derived.Test.YtfbmjimhjlmhkaaP
namespace Go.Proofs.Ytfbmjimhjlmhkaa
open Go Go.Proofs.Ytfbmjimhjlmhkaa.Sx
set_option linter.unusedVariables false
set_option maxRecDepth 100000

def laws_FnExactRestOf_j0 (aL_p : Option Addr) (aL_n : Nat) (aL_c : Nat) (aCur : ByteArray) (r : Nat) (r_1 : Nat) (W : World) (R : Value → World → Prop) : Prop :=
  ∃ (t500 : Bool) (t501_p : Option Addr) (t501_n : Nat) (t501_c : Nat) (t502_p : Option Addr) (t502_n : Nat) (t502_c : Nat), Loads P 28 ⟨r_1, 0, none⟩ (.agg #[(.bool t500), (.slice t501_p t501_n t501_c), (.slice t502_p t502_n t502_c)]) W ∧ Calls P 15 ⟨[(.agg #[(.bool t500), (.slice t501_p t501_n t501_c), (.slice t502_p t502_n t502_c)]), (.int .i64 1)]⟩ W fun e_9 wv_13 =>
  ∃ (t52 : Int), e_9 = .returned (.int .i64 t52) ∧
  ∃ (t530 : Bool) (t531_p : Option Addr) (t531_n : Nat) (t531_c : Nat) (t532_p : Option Addr) (t532_n : Nat) (t532_c : Nat), Loads P 28 ⟨r_1, 0, none⟩ (.agg #[(.bool t530), (.slice t531_p t531_n t531_c), (.slice t532_p t532_n t532_c)]) wv_13 ∧ Calls P 16 ⟨[(.agg #[(.bool t530), (.slice t531_p t531_n t531_c), (.slice t532_p t532_n t532_c)]), (.int .i64 1)]⟩ wv_13 fun e_10 wv_14 =>
  ∃ (t55 : Int), e_10 = .returned (.int .i64 t55) ∧
  ((decide ((t55 : Int) < 0)) = true →
    R (.bool false) wv_14) ∧
  ((decide ((t55 : Int) < 0)) = false →
    ((decide ((t55 : Int) ≠ t52)) = true →
      R (.bool false) wv_14) ∧
    ((decide ((t55 : Int) ≠ t52)) = false →
      Calls P 10 ⟨[(.slice aL_p aL_n aL_c)]⟩ wv_14 fun e_11 wv_15 =>
      ∃ (t62_p : Option Addr) (t62_n : Nat) (t62_c : Nat), e_11 = .returned (.slice t62_p t62_n t62_c) ∧
      Calls P 11 ⟨[(.slice t62_p t62_n t62_c), (.string aCur)]⟩ wv_15 fun e_12 wv_16 =>
      ∃ (t640 : Bool) (t641_p : Option Addr) (t641_n : Nat) (t641_c : Nat) (t642_p : Option Addr) (t642_n : Nat) (t642_c : Nat), e_12 = .returned (.agg #[(.bool t640), (.slice t641_p t641_n t641_c), (.slice t642_p t642_n t642_c)]) ∧
      ∀ (r_2 : Nat) (wv_17 : World), New wv_16 (.cells ⟨[(.bool false), (.slice none 0 0), (.slice none 0 0)]⟩ 28 (0, 0)) r_2 wv_17 →
      ∃ wv_18, Stores P 28 ⟨r_2, 0, none⟩ (.agg #[(.bool t640), (.slice t641_p t641_n t641_c), (.slice t642_p t642_n t642_c)]) wv_17 wv_18 ∧
      ∃ (t650 : Bool) (t651_p : Option Addr) (t651_n : Nat) (t651_c : Nat) (t652_p : Option Addr) (t652_n : Nat) (t652_c : Nat), Loads P 28 ⟨r_2, 0, none⟩ (.agg #[(.bool t650), (.slice t651_p t651_n t651_c), (.slice t652_p t652_n t652_c)]) wv_18 ∧ ∃ (t660 : Bool) (t661_p : Option Addr) (t661_n : Nat) (t661_c : Nat) (t662_p : Option Addr) (t662_n : Nat) (t662_c : Nat), Loads P 28 ⟨r, 0, none⟩ (.agg #[(.bool t660), (.slice t661_p t661_n t661_c), (.slice t662_p t662_n t662_c)]) wv_18 ∧ Calls P 12 ⟨[(.agg #[(.bool t650), (.slice t651_p t651_n t651_c), (.slice t652_p t652_n t652_c)]), (.agg #[(.bool t660), (.slice t661_p t661_n t661_c), (.slice t662_p t662_n t662_c)])]⟩ wv_18 fun e_13 wv_19 =>
      ∃ (t67 : Bool), e_13 = .returned (.bool t67) ∧
      ((!t67) = true →
        R (.bool false) wv_19) ∧
      ((!t67) = false →
        ∃ (t690 : Bool) (t691_p : Option Addr) (t691_n : Nat) (t691_c : Nat) (t692_p : Option Addr) (t692_n : Nat) (t692_c : Nat), Loads P 28 ⟨r_1, 0, none⟩ (.agg #[(.bool t690), (.slice t691_p t691_n t691_c), (.slice t692_p t692_n t692_c)]) wv_19 ∧ Calls P 16 ⟨[(.agg #[(.bool t690), (.slice t691_p t691_n t691_c), (.slice t692_p t692_n t692_c)]), (.int .i64 1)]⟩ wv_19 fun e_14 wv_20 =>
        ∃ (t71 : Int), e_14 = .returned (.int .i64 t71) ∧
        ((decide ((t71 : Int) < 0)) = true →
          R (.bool false) wv_20) ∧
        ((decide ((t71 : Int) < 0)) = false →
          ((decide ((t71 : Int) ≠ t52)) = true →
            R (.bool false) wv_20) ∧
          ((decide ((t71 : Int) ≠ t52)) = false →
            R (.bool true) wv_20)))))
def laws_FnExactRestOf (aL_p : Option Addr) (aL_n : Nat) (aL_c : Nat) (aCur : ByteArray) (w : World) (R : Value → World → Prop) : Prop :=
  ((decide ((1048576 : Int) < ((aCur.size : Nat) : Int))) = true →
    R (.bool true) w) ∧
  ((decide ((1048576 : Int) < ((aCur.size : Nat) : Int))) = false →
    Calls P 8 ⟨[(.slice aL_p aL_n aL_c), (.int .i64 1048576)]⟩ w fun e wv =>
    ∃ (t18 : Int), e = .returned (.int .i64 t18) ∧
    ((decide ((t18 : Int) < 0)) = true →
      R (.bool true) wv) ∧
    ((decide ((t18 : Int) < 0)) = false →
      Calls P 10 ⟨[(.slice aL_p aL_n aL_c)]⟩ wv fun e_1 wv_1 =>
      ∃ (t22_p : Option Addr) (t22_n : Nat) (t22_c : Nat), e_1 = .returned (.slice t22_p t22_n t22_c) ∧
      Calls P 9 ⟨[(.slice t22_p t22_n t22_c), (.string aCur)]⟩ wv_1 fun e_2 wv_2 =>
      ∃ (t240 : Bool) (t241_p : Option Addr) (t241_n : Nat) (t241_c : Nat) (t242_p : Option Addr) (t242_n : Nat) (t242_c : Nat), e_2 = .returned (.agg #[(.bool t240), (.slice t241_p t241_n t241_c), (.slice t242_p t242_n t242_c)]) ∧
      ∀ (r : Nat) (wv_3 : World), New wv_2 (.cells ⟨[(.bool false), (.slice none 0 0), (.slice none 0 0)]⟩ 28 (0, 0)) r wv_3 →
      ∃ wv_4, Stores P 28 ⟨r, 0, none⟩ (.agg #[(.bool t240), (.slice t241_p t241_n t241_c), (.slice t242_p t242_n t242_c)]) wv_3 wv_4 ∧
      Calls P 10 ⟨[(.slice aL_p aL_n aL_c)]⟩ wv_4 fun e_3 wv_5 =>
      ∃ (t26_p : Option Addr) (t26_n : Nat) (t26_c : Nat), e_3 = .returned (.slice t26_p t26_n t26_c) ∧
      Calls P 11 ⟨[(.slice t26_p t26_n t26_c), (.string aCur)]⟩ wv_5 fun e_4 wv_6 =>
      ∃ (t290 : Bool) (t291_p : Option Addr) (t291_n : Nat) (t291_c : Nat) (t292_p : Option Addr) (t292_n : Nat) (t292_c : Nat), e_4 = .returned (.agg #[(.bool t290), (.slice t291_p t291_n t291_c), (.slice t292_p t292_n t292_c)]) ∧
      ∀ (r_1 : Nat) (wv_7 : World), New wv_6 (.cells ⟨[(.bool false), (.slice none 0 0), (.slice none 0 0)]⟩ 28 (0, 0)) r_1 wv_7 →
      ∃ wv_8, Stores P 28 ⟨r_1, 0, none⟩ (.agg #[(.bool t290), (.slice t291_p t291_n t291_c), (.slice t292_p t292_n t292_c)]) wv_7 wv_8 ∧
      ∃ (t300 : Bool) (t301_p : Option Addr) (t301_n : Nat) (t301_c : Nat) (t302_p : Option Addr) (t302_n : Nat) (t302_c : Nat), Loads P 28 ⟨r_1, 0, none⟩ (.agg #[(.bool t300), (.slice t301_p t301_n t301_c), (.slice t302_p t302_n t302_c)]) wv_8 ∧ ∃ (t310 : Bool) (t311_p : Option Addr) (t311_n : Nat) (t311_c : Nat) (t312_p : Option Addr) (t312_n : Nat) (t312_c : Nat), Loads P 28 ⟨r, 0, none⟩ (.agg #[(.bool t310), (.slice t311_p t311_n t311_c), (.slice t312_p t312_n t312_c)]) wv_8 ∧ Calls P 12 ⟨[(.agg #[(.bool t300), (.slice t301_p t301_n t301_c), (.slice t302_p t302_n t302_c)]), (.agg #[(.bool t310), (.slice t311_p t311_n t311_c), (.slice t312_p t312_n t312_c)])]⟩ wv_8 fun e_5 wv_9 =>
      ∃ (t32 : Bool), e_5 = .returned (.bool t32) ∧
      ((!t32) = true →
        R (.bool false) wv_9) ∧
      ((!t32) = false →
        Calls P 10 ⟨[(.slice aL_p aL_n aL_c)]⟩ wv_9 fun e_6 wv_10 =>
        ∃ (t36_p : Option Addr) (t36_n : Nat) (t36_c : Nat), e_6 = .returned (.slice t36_p t36_n t36_c) ∧
        Calls P 13 ⟨[(.slice t26_p t26_n t26_c), (.slice t36_p t36_n t36_c)]⟩ wv_10 fun e_7 wv_11 =>
        ∃ (t37 : Bool), e_7 = .returned (.bool t37) ∧
        ((!t37) = true →
          R (.bool false) wv_11) ∧
        ((!t37) = false →
          Calls P 14 ⟨[(.slice t26_p t26_n t26_c), (.int .i64 1)]⟩ wv_11 fun e_8 wv_12 =>
          ∃ (t41 : Int), e_8 = .returned (.int .i64 t41) ∧
          ((decide ((t41 : Int) < 0)) = true →
            (true = true →
              R (.bool false) wv_12) ∧
            (true = false →
              laws_FnExactRestOf_j0 aL_p aL_n aL_c aCur r r_1 wv_12 R)) ∧
          ((decide ((t41 : Int) < 0)) = false →
            ∃ (t450 : Bool) (t451_p : Option Addr) (t451_n : Nat) (t451_c : Nat) (t452_p : Option Addr) (t452_n : Nat) (t452_c : Nat), Loads P 28 ⟨r_1, 0, none⟩ (.agg #[(.bool t450), (.slice t451_p t451_n t451_c), (.slice t452_p t452_n t452_c)]) wv_12 ∧ ∃ (t460 : Bool) (t461_p : Option Addr) (t461_n : Nat) (t461_c : Nat) (t462_p : Option Addr) (t462_n : Nat) (t462_c : Nat), Loads P 28 ⟨r, 0, none⟩ (.agg #[(.bool t460), (.slice t461_p t461_n t461_c), (.slice t462_p t462_n t462_c)]) wv_12 ∧ Calls P 12 ⟨[(.agg #[(.bool t450), (.slice t451_p t451_n t451_c), (.slice t452_p t452_n t452_c)]), (.agg #[(.bool t460), (.slice t461_p t461_n t461_c), (.slice t462_p t462_n t462_c)])]⟩ wv_12 fun e_15 wv_21 =>
            ∃ (t47 : Bool), e_15 = .returned (.bool t47) ∧
            ((!t47) = true →
              R (.bool false) wv_21) ∧
            ((!t47) = false →
              laws_FnExactRestOf_j0 aL_p aL_n aL_c aCur r r_1 wv_21 R))))))
theorem laws_FnExactRestOf_eq (aL_p : Option Addr) (aL_n : Nat) (aL_c : Nat) (aCur : ByteArray) (w : World) (R : Value → World → Prop) : laws_FnExactRestOf aL_p aL_n aL_c aCur w R = fsem P Try.f3 (fun k => []) [(.slice aL_p aL_n aL_c), (.string aCur)] R w := by kernel_rfl
theorem laws_FnExactRestOf_ret {aL_p : Option Addr} {aL_n : Nat} {aL_c : Nat} {aCur : ByteArray} {w : World} {R : Value → World → Prop} (h : laws_FnExactRestOf aL_p aL_n aL_c aCur w R) : Ret P 3 [(.slice aL_p aL_n aL_c), (.string aCur)] w R :=
  Ret.of_fsem Try.func3 rfl (Eq.mp (laws_FnExactRestOf_eq aL_p aL_n aL_c aCur w R) h)

def laws_FnExactBalanceOf_j2 (r_3 : Nat) (t71 : Int) (W_2 : World) (R : Value → World → Prop) : Prop :=
  ∃ (t960 : ByteArray) (t961 : Bool) (t962_p : Option Addr) (t962_n : Nat) (t962_c : Nat), Loads P 42 ⟨r_3, 0, none⟩ (.agg #[(.string t960), (.bool t961), (.slice t962_p t962_n t962_c)]) W_2 ∧ Calls P 25 ⟨[(.agg #[(.string t960), (.bool t961), (.slice t962_p t962_n t962_c)]), (.int .i64 1)]⟩ W_2 fun e_14 wv_25 =>
  ∃ (t98 : Int), e_14 = .returned (.int .i64 t98) ∧
  ((decide ((t98 : Int) < 0)) = true →
    R (.bool false) wv_25) ∧
  ((decide ((t98 : Int) < 0)) = false →
    ((decide ((t98 : Int) ≠ t71)) = true →
      R (.bool false) wv_25) ∧
    ((decide ((t98 : Int) ≠ t71)) = false →
      R (.bool true) wv_25))
def laws_FnExactBalanceOf_j1 (aName : ByteArray) (r : Nat) (t28 : Bool) (r_1 : Nat) (r_3 : Nat) (W_1 : World) (R : Value → World → Prop) : Prop :=
  ∃ (t690 : ByteArray) (t691 : Bool) (t692_p : Option Addr) (t692_n : Nat) (t692_c : Nat), Loads P 42 ⟨r_3, 0, none⟩ (.agg #[(.string t690), (.bool t691), (.slice t692_p t692_n t692_c)]) W_1 ∧ Calls P 24 ⟨[(.agg #[(.string t690), (.bool t691), (.slice t692_p t692_n t692_c)]), (.int .i64 1)]⟩ W_1 fun e_9 wv_18 =>
  ∃ (t71 : Int), e_9 = .returned (.int .i64 t71) ∧
  ∃ (t720 : ByteArray) (t721 : Bool) (t722_p : Option Addr) (t722_n : Nat) (t722_c : Nat), Loads P 42 ⟨r_3, 0, none⟩ (.agg #[(.string t720), (.bool t721), (.slice t722_p t722_n t722_c)]) wv_18 ∧ Calls P 25 ⟨[(.agg #[(.string t720), (.bool t721), (.slice t722_p t722_n t722_c)]), (.int .i64 1)]⟩ wv_18 fun e_10 wv_19 =>
  ∃ (t74 : Int), e_10 = .returned (.int .i64 t74) ∧
  ((decide ((t74 : Int) < 0)) = true →
    R (.bool false) wv_19) ∧
  ((decide ((t74 : Int) < 0)) = false →
    ((decide ((t74 : Int) ≠ t71)) = true →
      R (.bool false) wv_19) ∧
    ((decide ((t74 : Int) ≠ t71)) = false →
      ∃ (t810_p : Option Addr) (t810_n : Nat) (t810_c : Nat), Loads P 39 ⟨r, 0, none⟩ (.agg #[(.slice t810_p t810_n t810_c)]) wv_19 ∧ Calls P 19 ⟨[(.agg #[(.slice t810_p t810_n t810_c)])]⟩ wv_19 fun e_11 wv_20 =>
      ∃ (t820_p : Option Addr) (t820_n : Nat) (t820_c : Nat), e_11 = .returned (.agg #[(.slice t820_p t820_n t820_c)]) ∧
      Calls P 20 ⟨[(.agg #[(.slice t820_p t820_n t820_c)]), (.string aName)]⟩ wv_20 fun e_12 wv_21 =>
      ∃ (t840 : ByteArray) (t841 : Bool) (t842_p : Option Addr) (t842_n : Nat) (t842_c : Nat) (t84 : Bool), e_12 = .returned (.tuple #[(.agg #[(.string t840), (.bool t841), (.slice t842_p t842_n t842_c)]), (.bool t84)]) ∧
      ∀ (r_4 : Nat) (wv_22 : World), New wv_21 (.cells ⟨[(.string ByteArray.empty), (.bool false), (.slice none 0 0)]⟩ 42 (0, 0)) r_4 wv_22 →
      ∃ wv_23, Stores P 42 ⟨r_4, 0, none⟩ (.agg #[(.string t840), (.bool t841), (.slice t842_p t842_n t842_c)]) wv_22 wv_23 ∧
      ∃ (t870 : ByteArray) (t871 : Bool) (t872_p : Option Addr) (t872_n : Nat) (t872_c : Nat), Loads P 42 ⟨r_4, 0, none⟩ (.agg #[(.string t870), (.bool t871), (.slice t872_p t872_n t872_c)]) wv_23 ∧ ∃ (t880 : ByteArray) (t881 : Bool) (t882_p : Option Addr) (t882_n : Nat) (t882_c : Nat), Loads P 42 ⟨r_1, 0, none⟩ (.agg #[(.string t880), (.bool t881), (.slice t882_p t882_n t882_c)]) wv_23 ∧ Calls P 21 ⟨[(.agg #[(.string t870), (.bool t871), (.slice t872_p t872_n t872_c)]), (.agg #[(.string t880), (.bool t881), (.slice t882_p t882_n t882_c)])]⟩ wv_23 fun e_13 wv_24 =>
      ∃ (t89 : Bool), e_13 = .returned (.bool t89) ∧
      ((!t89) = true →
        (true = true →
          R (.bool false) wv_24) ∧
        (true = false →
          laws_FnExactBalanceOf_j2 r_3 t71 wv_24 R)) ∧
      ((!t89) = false →
        ((!(t84 == t28)) = true →
          R (.bool false) wv_24) ∧
        ((!(t84 == t28)) = false →
          laws_FnExactBalanceOf_j2 r_3 t71 wv_24 R))))
def laws_FnExactBalanceOf_j0 (aName : ByteArray) (r : Nat) (t28 : Bool) (r_1 : Nat) (r_2 : Nat) (t36 : Bool) (r_3 : Nat) (W : World) (R : Value → World → Prop) : Prop :=
  ∃ (t480_p : Option Addr) (t480_n : Nat) (t480_c : Nat), (∀ wv_13, Ext W.drew wv_13 → Loads P 47 ⟨r_2, 0, none⟩ (.agg #[(.slice t480_p t480_n t480_c)]) wv_13) ∧ ∃ (t490_p : Option Addr) (t490_n : Nat) (t490_c : Nat), (∀ wv_14, Ext W.drew wv_14 → Loads P 39 ⟨r, 0, none⟩ (.agg #[(.slice t490_p t490_n t490_c)]) wv_14) ∧ Calls P 19 ⟨[(.agg #[(.slice t490_p t490_n t490_c)])]⟩ W.drew fun e_6 wv_15 =>
  ∃ (t500_p : Option Addr) (t500_n : Nat) (t500_c : Nat), e_6 = .returned (.agg #[(.slice t500_p t500_n t500_c)]) ∧
  Ext W.drew wv_15 ∧ Calls P 22 ⟨[(.agg #[(.slice t480_p t480_n t480_c)]), (.agg #[(.slice t500_p t500_n t500_c)])]⟩ wv_15 fun e_7 wv_16 =>
  ∃ (t51 : Bool), e_7 = .returned (.bool t51) ∧
  ((!t51) = true →
    R (.bool false) wv_16) ∧
  ((!t51) = false →
    ∃ (t530_p : Option Addr) (t530_n : Nat) (t530_c : Nat), Loads P 47 ⟨r_2, 0, none⟩ (.agg #[(.slice t530_p t530_n t530_c)]) wv_16 ∧ Calls P 23 ⟨[(.agg #[(.slice t530_p t530_n t530_c)]), (.int .i64 1)]⟩ wv_16 fun e_8 wv_17 =>
    ∃ (t55 : Int), e_8 = .returned (.int .i64 t55) ∧
    ((decide ((t55 : Int) < 0)) = true →
      (true = true →
        (true = true →
          R (.bool false) wv_17) ∧
        (true = false →
          laws_FnExactBalanceOf_j1 aName r t28 r_1 r_3 wv_17 R)) ∧
      (true = false →
        ((!(t36 == t28)) = true →
          R (.bool false) wv_17) ∧
        ((!(t36 == t28)) = false →
          laws_FnExactBalanceOf_j1 aName r t28 r_1 r_3 wv_17 R))) ∧
    ((decide ((t55 : Int) < 0)) = false →
      ∃ (t590 : ByteArray) (t591 : Bool) (t592_p : Option Addr) (t592_n : Nat) (t592_c : Nat), Loads P 42 ⟨r_3, 0, none⟩ (.agg #[(.string t590), (.bool t591), (.slice t592_p t592_n t592_c)]) wv_17 ∧ ∃ (t600 : ByteArray) (t601 : Bool) (t602_p : Option Addr) (t602_n : Nat) (t602_c : Nat), Loads P 42 ⟨r_1, 0, none⟩ (.agg #[(.string t600), (.bool t601), (.slice t602_p t602_n t602_c)]) wv_17 ∧ Calls P 21 ⟨[(.agg #[(.string t590), (.bool t591), (.slice t592_p t592_n t592_c)]), (.agg #[(.string t600), (.bool t601), (.slice t602_p t602_n t602_c)])]⟩ wv_17 fun e_15 wv_26 =>
      ∃ (t61 : Bool), e_15 = .returned (.bool t61) ∧
      ((!t61) = true →
        (true = true →
          R (.bool false) wv_26) ∧
        (true = false →
          laws_FnExactBalanceOf_j1 aName r t28 r_1 r_3 wv_26 R)) ∧
      ((!t61) = false →
        ((!(t36 == t28)) = true →
          R (.bool false) wv_26) ∧
        ((!(t36 == t28)) = false →
          laws_FnExactBalanceOf_j1 aName r t28 r_1 r_3 wv_26 R))))
def laws_FnExactBalanceOf (aB0_p : Option Addr) (aB0_n : Nat) (aB0_c : Nat) (aName : ByteArray) (w : World) (R : Value → World → Prop) : Prop :=
  ∀ (r : Nat) (wv : World), New w (.cells ⟨[(.slice aB0_p aB0_n aB0_c)]⟩ 39 (0, 0)) r wv →
  ((decide ((1048576 : Int) < ((aName.size : Nat) : Int))) = true →
    R (.bool true) wv) ∧
  ((decide ((1048576 : Int) < ((aName.size : Nat) : Int))) = false →
    ∃ (t190_p : Option Addr) (t190_n : Nat) (t190_c : Nat), Loads P 39 ⟨r, 0, none⟩ (.agg #[(.slice t190_p t190_n t190_c)]) wv ∧ Calls P 17 ⟨[(.agg #[(.slice t190_p t190_n t190_c)]), (.int .i64 1048576)]⟩ wv fun e wv_1 =>
    ∃ (t21 : Int), e = .returned (.int .i64 t21) ∧
    ((decide ((t21 : Int) < 0)) = true →
      R (.bool true) wv_1) ∧
    ((decide ((t21 : Int) < 0)) = false →
      ∃ (t250_p : Option Addr) (t250_n : Nat) (t250_c : Nat), Loads P 39 ⟨r, 0, none⟩ (.agg #[(.slice t250_p t250_n t250_c)]) wv_1 ∧ Calls P 19 ⟨[(.agg #[(.slice t250_p t250_n t250_c)])]⟩ wv_1 fun e_1 wv_2 =>
      ∃ (t260_p : Option Addr) (t260_n : Nat) (t260_c : Nat), e_1 = .returned (.agg #[(.slice t260_p t260_n t260_c)]) ∧
      Calls P 18 ⟨[(.agg #[(.slice t260_p t260_n t260_c)]), (.string aName)]⟩ wv_2 fun e_2 wv_3 =>
      ∃ (t280 : ByteArray) (t281 : Bool) (t282_p : Option Addr) (t282_n : Nat) (t282_c : Nat) (t28 : Bool), e_2 = .returned (.tuple #[(.agg #[(.string t280), (.bool t281), (.slice t282_p t282_n t282_c)]), (.bool t28)]) ∧
      ∀ (r_1 : Nat) (wv_4 : World), New wv_3 (.cells ⟨[(.string ByteArray.empty), (.bool false), (.slice none 0 0)]⟩ 42 (0, 0)) r_1 wv_4 →
      ∃ wv_5, Stores P 42 ⟨r_1, 0, none⟩ (.agg #[(.string t280), (.bool t281), (.slice t282_p t282_n t282_c)]) wv_4 wv_5 ∧
      ∃ (t310_p : Option Addr) (t310_n : Nat) (t310_c : Nat), Loads P 39 ⟨r, 0, none⟩ (.agg #[(.slice t310_p t310_n t310_c)]) wv_5 ∧ Calls P 19 ⟨[(.agg #[(.slice t310_p t310_n t310_c)])]⟩ wv_5 fun e_3 wv_6 =>
      ∃ (t320_p : Option Addr) (t320_n : Nat) (t320_c : Nat), e_3 = .returned (.agg #[(.slice t320_p t320_n t320_c)]) ∧
      ∀ (r_2 : Nat) (wv_7 : World), New wv_6 (.cells ⟨[(.slice none 0 0)]⟩ 47 (0, 0)) r_2 wv_7 →
      ∃ wv_8, Stores P 47 ⟨r_2, 0, none⟩ (.agg #[(.slice t320_p t320_n t320_c)]) wv_7 wv_8 ∧
      ∃ (t340_p : Option Addr) (t340_n : Nat) (t340_c : Nat), Loads P 47 ⟨r_2, 0, none⟩ (.agg #[(.slice t340_p t340_n t340_c)]) wv_8 ∧ Calls P 20 ⟨[(.agg #[(.slice t340_p t340_n t340_c)]), (.string aName)]⟩ wv_8 fun e_4 wv_9 =>
      ∃ (t360 : ByteArray) (t361 : Bool) (t362_p : Option Addr) (t362_n : Nat) (t362_c : Nat) (t36 : Bool), e_4 = .returned (.tuple #[(.agg #[(.string t360), (.bool t361), (.slice t362_p t362_n t362_c)]), (.bool t36)]) ∧
      ∀ (r_3 : Nat) (wv_10 : World), New wv_9 (.cells ⟨[(.string ByteArray.empty), (.bool false), (.slice none 0 0)]⟩ 42 (0, 0)) r_3 wv_10 →
      ∃ wv_11, Stores P 42 ⟨r_3, 0, none⟩ (.agg #[(.string t360), (.bool t361), (.slice t362_p t362_n t362_c)]) wv_10 wv_11 ∧
      ∃ (t390 : ByteArray) (t391 : Bool) (t392_p : Option Addr) (t392_n : Nat) (t392_c : Nat), Loads P 42 ⟨r_3, 0, none⟩ (.agg #[(.string t390), (.bool t391), (.slice t392_p t392_n t392_c)]) wv_11 ∧ ∃ (t400 : ByteArray) (t401 : Bool) (t402_p : Option Addr) (t402_n : Nat) (t402_c : Nat), Loads P 42 ⟨r_1, 0, none⟩ (.agg #[(.string t400), (.bool t401), (.slice t402_p t402_n t402_c)]) wv_11 ∧ Calls P 21 ⟨[(.agg #[(.string t390), (.bool t391), (.slice t392_p t392_n t392_c)]), (.agg #[(.string t400), (.bool t401), (.slice t402_p t402_n t402_c)])]⟩ wv_11 fun e_5 wv_12 =>
      ∃ (t41 : Bool), e_5 = .returned (.bool t41) ∧
      ((!t41) = true →
        (true = true →
          R (.bool false) wv_12) ∧
        (true = false →
          laws_FnExactBalanceOf_j0 aName r t28 r_1 r_2 t36 r_3 wv_12 R)) ∧
      ((!t41) = false →
        ((!(t36 == t28)) = true →
          R (.bool false) wv_12) ∧
        ((!(t36 == t28)) = false →
          laws_FnExactBalanceOf_j0 aName r t28 r_1 r_2 t36 r_3 wv_12 R))))
theorem laws_FnExactBalanceOf_eq (aB0_p : Option Addr) (aB0_n : Nat) (aB0_c : Nat) (aName : ByteArray) (w : World) (R : Value → World → Prop) : laws_FnExactBalanceOf aB0_p aB0_n aB0_c aName w R = fsem P Try.f4 (fun k => []) [(.agg #[(.slice aB0_p aB0_n aB0_c)]), (.string aName)] R w := by kernel_rfl
theorem laws_FnExactBalanceOf_ret {aB0_p : Option Addr} {aB0_n : Nat} {aB0_c : Nat} {aName : ByteArray} {w : World} {R : Value → World → Prop} (h : laws_FnExactBalanceOf aB0_p aB0_n aB0_c aName w R) : Ret P 4 [(.agg #[(.slice aB0_p aB0_n aB0_c)]), (.string aName)] w R :=
  Ret.of_fsem Try.func4 rfl (Eq.mp (laws_FnExactBalanceOf_eq aB0_p aB0_n aB0_c aName w R) h)

def laws_FnExactTaxRateOk (aR0 : Bool) (aR1_p : Option Addr) (aR1_n : Nat) (aR1_c : Nat) (aR2 : Int) (w : World) (R : Value → World → Prop) : Prop :=
  ∀ (r : Nat) (wv : World), New w (.cells ⟨[(.bool aR0), (.slice aR1_p aR1_n aR1_c), (.int .i64 aR2)]⟩ 56 (0, 0)) r wv →
  ∃ (t70 : Bool) (t71_p : Option Addr) (t71_n : Nat) (t71_c : Nat) (t72 : Int), Loads P 56 ⟨r, 0, none⟩ (.agg #[(.bool t70), (.slice t71_p t71_n t71_c), (.int .i64 t72)]) wv ∧ Calls P 26 ⟨[(.agg #[(.bool t70), (.slice t71_p t71_n t71_c), (.int .i64 t72)]), (.int .i64 1048576)]⟩ wv fun e wv_1 =>
  ∃ (t9 : Int), e = .returned (.int .i64 t9) ∧
  ((decide ((t9 : Int) < 0)) = true →
    R (.bool true) wv_1) ∧
  ((decide ((t9 : Int) < 0)) = false →
    ∃ (t120 : Bool) (t121_p : Option Addr) (t121_n : Nat) (t121_c : Nat) (t122 : Int), Loads P 56 ⟨r, 0, none⟩ (.agg #[(.bool t120), (.slice t121_p t121_n t121_c), (.int .i64 t122)]) wv_1 ∧ Calls P 28 ⟨[(.agg #[(.bool t120), (.slice t121_p t121_n t121_c), (.int .i64 t122)])]⟩ wv_1 fun e_1 wv_2 =>
    ∃ (t130 : Bool) (t131_p : Option Addr) (t131_n : Nat) (t131_c : Nat) (t132 : Int), e_1 = .returned (.agg #[(.bool t130), (.slice t131_p t131_n t131_c), (.int .i64 t132)]) ∧
    Calls P 27 ⟨[(.agg #[(.bool t130), (.slice t131_p t131_n t131_c), (.int .i64 t132)])]⟩ wv_2 fun e_2 wv_3 =>
    ∃ (t14 : Bool), e_2 = .returned (.bool t14) ∧
    ∃ (t150 : Bool) (t151_p : Option Addr) (t151_n : Nat) (t151_c : Nat) (t152 : Int), Loads P 56 ⟨r, 0, none⟩ (.agg #[(.bool t150), (.slice t151_p t151_n t151_c), (.int .i64 t152)]) wv_3 ∧ Calls P 28 ⟨[(.agg #[(.bool t150), (.slice t151_p t151_n t151_c), (.int .i64 t152)])]⟩ wv_3 fun e_3 wv_4 =>
    ∃ (t160 : Bool) (t161_p : Option Addr) (t161_n : Nat) (t161_c : Nat) (t162 : Int), e_3 = .returned (.agg #[(.bool t160), (.slice t161_p t161_n t161_c), (.int .i64 t162)]) ∧
    ∀ (r_1 : Nat) (wv_5 : World), New wv_4 (.cells ⟨[(.bool false), (.slice none 0 0), (.int .i64 0)]⟩ 60 (0, 0)) r_1 wv_5 →
    ∃ wv_6, Stores P 60 ⟨r_1, 0, none⟩ (.agg #[(.bool t160), (.slice t161_p t161_n t161_c), (.int .i64 t162)]) wv_5 wv_6 ∧
    ∃ (t170 : Bool) (t171_p : Option Addr) (t171_n : Nat) (t171_c : Nat) (t172 : Int), Loads P 60 ⟨r_1, 0, none⟩ (.agg #[(.bool t170), (.slice t171_p t171_n t171_c), (.int .i64 t172)]) wv_6 ∧ Calls P 29 ⟨[(.agg #[(.bool t170), (.slice t171_p t171_n t171_c), (.int .i64 t172)])]⟩ wv_6 fun e_4 wv_7 =>
    ∃ (t18 : Bool), e_4 = .returned (.bool t18) ∧
    ((!(t18 == t14)) = true →
      R (.bool false) wv_7) ∧
    ((!(t18 == t14)) = false →
      ∃ (t220 : Bool) (t221_p : Option Addr) (t221_n : Nat) (t221_c : Nat) (t222 : Int), (∀ wv_8, Ext wv_7.drew wv_8 → Loads P 60 ⟨r_1, 0, none⟩ (.agg #[(.bool t220), (.slice t221_p t221_n t221_c), (.int .i64 t222)]) wv_8) ∧ ∃ (t230 : Bool) (t231_p : Option Addr) (t231_n : Nat) (t231_c : Nat) (t232 : Int), (∀ wv_9, Ext wv_7.drew wv_9 → Loads P 56 ⟨r, 0, none⟩ (.agg #[(.bool t230), (.slice t231_p t231_n t231_c), (.int .i64 t232)]) wv_9) ∧ Calls P 28 ⟨[(.agg #[(.bool t230), (.slice t231_p t231_n t231_c), (.int .i64 t232)])]⟩ wv_7.drew fun e_5 wv_10 =>
      ∃ (t240 : Bool) (t241_p : Option Addr) (t241_n : Nat) (t241_c : Nat) (t242 : Int), e_5 = .returned (.agg #[(.bool t240), (.slice t241_p t241_n t241_c), (.int .i64 t242)]) ∧
      Ext wv_7.drew wv_10 ∧ Calls P 30 ⟨[(.agg #[(.bool t220), (.slice t221_p t221_n t221_c), (.int .i64 t222)]), (.agg #[(.bool t240), (.slice t241_p t241_n t241_c), (.int .i64 t242)])]⟩ wv_10 fun e_6 wv_11 =>
      ∃ (t25 : Bool), e_6 = .returned (.bool t25) ∧
      ((!t25) = true →
        R (.bool false) wv_11) ∧
      ((!t25) = false →
        R (.bool true) wv_11)))
theorem laws_FnExactTaxRateOk_eq (aR0 : Bool) (aR1_p : Option Addr) (aR1_n : Nat) (aR1_c : Nat) (aR2 : Int) (w : World) (R : Value → World → Prop) : laws_FnExactTaxRateOk aR0 aR1_p aR1_n aR1_c aR2 w R = fsem P Try.f5 (fun k => []) [(.agg #[(.bool aR0), (.slice aR1_p aR1_n aR1_c), (.int .i64 aR2)])] R w := by kernel_rfl
theorem laws_FnExactTaxRateOk_ret {aR0 : Bool} {aR1_p : Option Addr} {aR1_n : Nat} {aR1_c : Nat} {aR2 : Int} {w : World} {R : Value → World → Prop} (h : laws_FnExactTaxRateOk aR0 aR1_p aR1_n aR1_c aR2 w R) : Ret P 5 [(.agg #[(.bool aR0), (.slice aR1_p aR1_n aR1_c), (.int .i64 aR2)])] w R :=
  Ret.of_fsem Try.func5 rfl (Eq.mp (laws_FnExactTaxRateOk_eq aR0 aR1_p aR1_n aR1_c aR2 w R) h)

def laws_FnExactStepsOk (aL_p : Option Addr) (aL_n : Nat) (aL_c : Nat) (w : World) (R : Value → World → Prop) : Prop :=
  Calls P 31 ⟨[(.slice aL_p aL_n aL_c), (.int .i64 1048576)]⟩ w fun e wv =>
  ∃ (t9 : Int), e = .returned (.int .i64 t9) ∧
  ((decide ((t9 : Int) < 0)) = true →
    R (.bool true) wv) ∧
  ((decide ((t9 : Int) < 0)) = false →
    Calls P 33 ⟨[(.slice aL_p aL_n aL_c)]⟩ wv fun e_1 wv_1 =>
    ∃ (t13_p : Option Addr) (t13_n : Nat) (t13_c : Nat), e_1 = .returned (.slice t13_p t13_n t13_c) ∧
    Calls P 32 ⟨[(.slice t13_p t13_n t13_c)]⟩ wv_1 fun e_2 wv_2 =>
    ∃ (t14 : Bool), e_2 = .returned (.bool t14) ∧
    Calls P 33 ⟨[(.slice aL_p aL_n aL_c)]⟩ wv_2 fun e_3 wv_3 =>
    ∃ (t16_p : Option Addr) (t16_n : Nat) (t16_c : Nat), e_3 = .returned (.slice t16_p t16_n t16_c) ∧
    Calls P 34 ⟨[(.slice t16_p t16_n t16_c)]⟩ wv_3 fun e_4 wv_4 =>
    ∃ (t18 : Bool), e_4 = .returned (.bool t18) ∧
    ((!(t18 == t14)) = true →
      R (.bool false) wv_4) ∧
    ((!(t18 == t14)) = false →
      Calls P 33 ⟨[(.slice aL_p aL_n aL_c)]⟩ wv_4 fun e_5 wv_5 =>
      ∃ (t24_p : Option Addr) (t24_n : Nat) (t24_c : Nat), e_5 = .returned (.slice t24_p t24_n t24_c) ∧
      Calls P 35 ⟨[(.slice t16_p t16_n t16_c), (.slice t24_p t24_n t24_c)]⟩ wv_5 fun e_6 wv_6 =>
      ∃ (t25 : Bool), e_6 = .returned (.bool t25) ∧
      ((!t25) = true →
        R (.bool false) wv_6) ∧
      ((!t25) = false →
        R (.bool true) wv_6)))
theorem laws_FnExactStepsOk_eq (aL_p : Option Addr) (aL_n : Nat) (aL_c : Nat) (w : World) (R : Value → World → Prop) : laws_FnExactStepsOk aL_p aL_n aL_c w R = fsem P Try.f6 (fun k => []) [(.slice aL_p aL_n aL_c)] R w := by kernel_rfl
theorem laws_FnExactStepsOk_ret {aL_p : Option Addr} {aL_n : Nat} {aL_c : Nat} {w : World} {R : Value → World → Prop} (h : laws_FnExactStepsOk aL_p aL_n aL_c w R) : Ret P 6 [(.slice aL_p aL_n aL_c)] w R :=
  Ret.of_fsem Try.func6 rfl (Eq.mp (laws_FnExactStepsOk_eq aL_p aL_n aL_c w R) h)

def laws_FnExactStepAt (aL_p : Option Addr) (aL_n : Nat) (aL_c : Nat) (aUnits0 : Bool) (aUnits1_p : Option Addr) (aUnits1_n : Nat) (aUnits1_c : Nat) (w : World) (R : Value → World → Prop) : Prop :=
  ∀ (r : Nat) (wv : World), New w (.cells ⟨[(.bool aUnits0), (.slice aUnits1_p aUnits1_n aUnits1_c)]⟩ 54 (0, 0)) r wv →
  Calls P 31 ⟨[(.slice aL_p aL_n aL_c), (.int .i64 1048576)]⟩ wv fun e wv_1 =>
  ∃ (t12 : Int), e = .returned (.int .i64 t12) ∧
  ((decide ((t12 : Int) < 0)) = true →
    R (.bool true) wv_1) ∧
  ((decide ((t12 : Int) < 0)) = false →
    ∃ (t150 : Bool) (t151_p : Option Addr) (t151_n : Nat) (t151_c : Nat), Loads P 54 ⟨r, 0, none⟩ (.agg #[(.bool t150), (.slice t151_p t151_n t151_c)]) wv_1 ∧ Calls P 36 ⟨[(.agg #[(.bool t150), (.slice t151_p t151_n t151_c)]), (.int .i64 t12)]⟩ wv_1 fun e_1 wv_2 =>
    ∃ (t17 : Int), e_1 = .returned (.int .i64 t17) ∧
    ((decide ((t17 : Int) < 0)) = true →
      R (.bool true) wv_2) ∧
    ((decide ((t17 : Int) < 0)) = false →
      Calls P 33 ⟨[(.slice aL_p aL_n aL_c)]⟩ wv_2.drew fun e_2 wv_3 =>
      ∃ (t21_p : Option Addr) (t21_n : Nat) (t21_c : Nat), e_2 = .returned (.slice t21_p t21_n t21_c) ∧
      Ext wv_2.drew wv_3 ∧ ∃ (t220 : Bool) (t221_p : Option Addr) (t221_n : Nat) (t221_c : Nat), (∀ wv_4, Ext wv_2.drew wv_4 → Loads P 54 ⟨r, 0, none⟩ (.agg #[(.bool t220), (.slice t221_p t221_n t221_c)]) wv_4) ∧ Calls P 38 ⟨[(.agg #[(.bool t220), (.slice t221_p t221_n t221_c)])]⟩ wv_3 fun e_3 wv_5 =>
      ∃ (t230 : Bool) (t231_p : Option Addr) (t231_n : Nat) (t231_c : Nat), e_3 = .returned (.agg #[(.bool t230), (.slice t231_p t231_n t231_c)]) ∧
      Calls P 37 ⟨[(.slice t21_p t21_n t21_c), (.agg #[(.bool t230), (.slice t231_p t231_n t231_c)])]⟩ wv_5 fun e_4 wv_6 =>
      ∃ (t24 : Int), e_4 = .returned (.int .i64 t24) ∧
      Calls P 33 ⟨[(.slice aL_p aL_n aL_c)]⟩ wv_6 fun e_5 wv_7 =>
      ∃ (t26_p : Option Addr) (t26_n : Nat) (t26_c : Nat), e_5 = .returned (.slice t26_p t26_n t26_c) ∧
      ∃ (t270 : Bool) (t271_p : Option Addr) (t271_n : Nat) (t271_c : Nat), Loads P 54 ⟨r, 0, none⟩ (.agg #[(.bool t270), (.slice t271_p t271_n t271_c)]) wv_7 ∧ Calls P 38 ⟨[(.agg #[(.bool t270), (.slice t271_p t271_n t271_c)])]⟩ wv_7 fun e_6 wv_8 =>
      ∃ (t280 : Bool) (t281_p : Option Addr) (t281_n : Nat) (t281_c : Nat), e_6 = .returned (.agg #[(.bool t280), (.slice t281_p t281_n t281_c)]) ∧
      ∀ (r_1 : Nat) (wv_9 : World), New wv_8 (.cells ⟨[(.bool false), (.slice none 0 0)]⟩ 26 (0, 0)) r_1 wv_9 →
      ∃ wv_10, Stores P 26 ⟨r_1, 0, none⟩ (.agg #[(.bool t280), (.slice t281_p t281_n t281_c)]) wv_9 wv_10 ∧
      ∃ (t300 : Bool) (t301_p : Option Addr) (t301_n : Nat) (t301_c : Nat), Loads P 26 ⟨r_1, 0, none⟩ (.agg #[(.bool t300), (.slice t301_p t301_n t301_c)]) wv_10 ∧ Calls P 39 ⟨[(.slice t26_p t26_n t26_c), (.agg #[(.bool t300), (.slice t301_p t301_n t301_c)])]⟩ wv_10 fun e_7 wv_11 =>
      ∃ (t31 : Int), e_7 = .returned (.int .i64 t31) ∧
      ((decide ((t31 : Int) ≠ t24)) = true →
        R (.bool false) wv_11) ∧
      ((decide ((t31 : Int) ≠ t24)) = false →
        Calls P 33 ⟨[(.slice aL_p aL_n aL_c)]⟩ wv_11 fun e_8 wv_12 =>
        ∃ (t37_p : Option Addr) (t37_n : Nat) (t37_c : Nat), e_8 = .returned (.slice t37_p t37_n t37_c) ∧
        Calls P 35 ⟨[(.slice t26_p t26_n t26_c), (.slice t37_p t37_n t37_c)]⟩ wv_12 fun e_9 wv_13 =>
        ∃ (t38 : Bool), e_9 = .returned (.bool t38) ∧
        ((!t38) = true →
          R (.bool false) wv_13) ∧
        ((!t38) = false →
          ∃ (t400 : Bool) (t401_p : Option Addr) (t401_n : Nat) (t401_c : Nat), (∀ wv_14, Ext wv_13.drew wv_14 → Loads P 26 ⟨r_1, 0, none⟩ (.agg #[(.bool t400), (.slice t401_p t401_n t401_c)]) wv_14) ∧ ∃ (t410 : Bool) (t411_p : Option Addr) (t411_n : Nat) (t411_c : Nat), (∀ wv_15, Ext wv_13.drew wv_15 → Loads P 54 ⟨r, 0, none⟩ (.agg #[(.bool t410), (.slice t411_p t411_n t411_c)]) wv_15) ∧ Calls P 38 ⟨[(.agg #[(.bool t410), (.slice t411_p t411_n t411_c)])]⟩ wv_13.drew fun e_10 wv_16 =>
          ∃ (t420 : Bool) (t421_p : Option Addr) (t421_n : Nat) (t421_c : Nat), e_10 = .returned (.agg #[(.bool t420), (.slice t421_p t421_n t421_c)]) ∧
          Ext wv_13.drew wv_16 ∧ Calls P 40 ⟨[(.agg #[(.bool t400), (.slice t401_p t401_n t401_c)]), (.agg #[(.bool t420), (.slice t421_p t421_n t421_c)])]⟩ wv_16 fun e_11 wv_17 =>
          ∃ (t43 : Bool), e_11 = .returned (.bool t43) ∧
          ((!t43) = true →
            R (.bool false) wv_17) ∧
          ((!t43) = false →
            R (.bool true) wv_17)))))
theorem laws_FnExactStepAt_eq (aL_p : Option Addr) (aL_n : Nat) (aL_c : Nat) (aUnits0 : Bool) (aUnits1_p : Option Addr) (aUnits1_n : Nat) (aUnits1_c : Nat) (w : World) (R : Value → World → Prop) : laws_FnExactStepAt aL_p aL_n aL_c aUnits0 aUnits1_p aUnits1_n aUnits1_c w R = fsem P Try.f7 (fun k => []) [(.slice aL_p aL_n aL_c), (.agg #[(.bool aUnits0), (.slice aUnits1_p aUnits1_n aUnits1_c)])] R w := by kernel_rfl
theorem laws_FnExactStepAt_ret {aL_p : Option Addr} {aL_n : Nat} {aL_c : Nat} {aUnits0 : Bool} {aUnits1_p : Option Addr} {aUnits1_n : Nat} {aUnits1_c : Nat} {w : World} {R : Value → World → Prop} (h : laws_FnExactStepAt aL_p aL_n aL_c aUnits0 aUnits1_p aUnits1_n aUnits1_c w R) : Ret P 7 [(.slice aL_p aL_n aL_c), (.agg #[(.bool aUnits0), (.slice aUnits1_p aUnits1_n aUnits1_c)])] w R :=
  Ret.of_fsem Try.func7 rfl (Eq.mp (laws_FnExactStepAt_eq aL_p aL_n aL_c aUnits0 aUnits1_p aUnits1_n aUnits1_c w R) h)

def spec_RestOf (l_p : Option Addr) (l_n : Nat) (l_c : Nat) (cur : ByteArray) (w : World) (R : Value → World → Prop) : Prop :=
  ∀ (r : Nat) (wv : World), New w (.cells ⟨[(.bool false), (.slice none 0 0), (.slice none 0 0)]⟩ 28 (0, 0)) r wv →
  ∃ (Inv : Int → World → Prop) (mu : Int → World → Nat), Inv 0 wv ∧
  ∀ (junk : Fr) (wv_1 : World) (t9 : Int), Inv t9 wv_1 →
    ((decide ((t9 : Int) < ((l_n : Nat) : Int))) = true →
      (0 ≤ (t9 : Int) ∧ (t9 : Int) < (l_n : Nat)) ∧ ptrS l_p fun ad => ∃ (t120 : ByteArray) (t121 : Bool) (t122_p : Option Addr) (t122_n : Nat) (t122_c : Nat) (t123_p : Option Addr) (t123_n : Nat) (t123_c : Nat), Loads P 82 (ad.add (t9.toNat * 4)) (.agg #[(.string t120), (.bool t121), (.slice t122_p t122_n t122_c), (.slice t123_p t123_n t123_c)]) wv_1 ∧ ∀ (r_1 : Nat) (wv_2 : World), New wv_1 (.cells ⟨[(.string ByteArray.empty), (.bool false), (.slice none 0 0), (.slice none 0 0)]⟩ 82 (0, 0)) r_1 wv_2 →
      ∃ wv_3, Stores P 82 ⟨r_1, 0, none⟩ (.agg #[(.string t120), (.bool t121), (.slice t122_p t122_n t122_c), (.slice t123_p t123_n t123_c)]) wv_2 wv_3 ∧
      ∃ (t14 : ByteArray), Loads P 9 ((⟨r_1, 0, none⟩ : Addr).add 0) (.string t14) wv_3 ∧ ((decide (t14 = cur)) = true →
        ∃ (t180 : Bool) (t181_p : Option Addr) (t181_n : Nat) (t181_c : Nat) (t182_p : Option Addr) (t182_n : Nat) (t182_c : Nat), Loads P 28 ((⟨r_1, 0, none⟩ : Addr).add 1) (.agg #[(.bool t180), (.slice t181_p t181_n t181_c), (.slice t182_p t182_n t182_c)]) wv_3 ∧ Calls P 42 ⟨[(.agg #[(.bool t180), (.slice t181_p t181_n t181_c), (.slice t182_p t182_n t182_c)])]⟩ wv_3 fun e wv_4 =>
        ∃ (t190 : Bool) (t191_p : Option Addr) (t191_n : Nat) (t191_c : Nat) (t192_p : Option Addr) (t192_n : Nat) (t192_c : Nat), e = .returned (.agg #[(.bool t190), (.slice t191_p t191_n t191_c), (.slice t192_p t192_n t192_c)]) ∧
        ∃ wv_5, Stores P 28 ⟨r, 0, none⟩ (.agg #[(.bool t190), (.slice t191_p t191_n t191_c), (.slice t192_p t192_n t192_c)]) wv_4 wv_5 ∧
        ∃ (r0 : Bool) (r1_p : Option Addr) (r1_n : Nat) (r1_c : Nat) (r2_p : Option Addr) (r2_n : Nat) (r2_c : Nat), Loads P 28 ⟨r, 0, none⟩ (.agg #[(.bool r0), (.slice r1_p r1_n r1_c), (.slice r2_p r2_n r2_c)]) wv_5 ∧ R (.agg #[(.bool r0), (.slice r1_p r1_n r1_c), (.slice r2_p r2_n r2_c)]) wv_5) ∧
      ((decide (t14 = cur)) = false →
        ∃ t20 : Int, t20 = IntKind.wrap .i64 (t9 + 1) ∧ Inv t20 wv_3 ∧ mu t20 wv_3 < mu t9 wv_1)) ∧
    ((decide ((t9 : Int) < ((l_n : Nat) : Int))) = false →
      Calls P 43 ⟨[]⟩ wv_1 fun e_1 wv_6 =>
      ∃ (t210 : Bool) (t211_p : Option Addr) (t211_n : Nat) (t211_c : Nat) (t212_p : Option Addr) (t212_n : Nat) (t212_c : Nat), e_1 = .returned (.agg #[(.bool t210), (.slice t211_p t211_n t211_c), (.slice t212_p t212_n t212_c)]) ∧
      ∃ wv_7, Stores P 28 ⟨r, 0, none⟩ (.agg #[(.bool t210), (.slice t211_p t211_n t211_c), (.slice t212_p t212_n t212_c)]) wv_6 wv_7 ∧
      ∃ (r0_1 : Bool) (r1_p_1 : Option Addr) (r1_n_1 : Nat) (r1_c_1 : Nat) (r2_p_1 : Option Addr) (r2_n_1 : Nat) (r2_c_1 : Nat), Loads P 28 ⟨r, 0, none⟩ (.agg #[(.bool r0_1), (.slice r1_p_1 r1_n_1 r1_c_1), (.slice r2_p_1 r2_n_1 r2_c_1)]) wv_7 ∧ R (.agg #[(.bool r0_1), (.slice r1_p_1 r1_n_1 r1_c_1), (.slice r2_p_1 r2_n_1 r2_c_1)]) wv_7)
theorem spec_RestOf_eq (l_p : Option Addr) (l_n : Nat) (l_c : Nat) (cur : ByteArray) (w : World) (R : Value → World → Prop) : spec_RestOf l_p l_n l_c cur w R = fsem P Try.f9 (fun k => cond (Nat.beq k 3) [(9, .one (.int .i64))] ([])) [(.slice l_p l_n l_c), (.string cur)] R w := by kernel_rfl
theorem spec_RestOf_ret {l_p : Option Addr} {l_n : Nat} {l_c : Nat} {cur : ByteArray} {w : World} {R : Value → World → Prop} (h : spec_RestOf l_p l_n l_c cur w R) : Ret P 9 [(.slice l_p l_n l_c), (.string cur)] w R :=
  Ret.of_fsem Try.func9 rfl (Eq.mp (spec_RestOf_eq l_p l_n l_c cur w R) h)

def impl_RestOf (l_p : Option Addr) (l_n : Nat) (l_c : Nat) (cur : ByteArray) (w : World) (R : Value → World → Prop) : Prop :=
  ∀ (r : Nat) (wv : World), New w (.cells ⟨[(.bool false), (.slice none 0 0), (.slice none 0 0)]⟩ 28 (0, 0)) r wv →
  ∃ (Inv : Int → World → Prop) (mu : Int → World → Nat), Inv 0 wv ∧
  ∀ (junk : Fr) (wv_1 : World) (t9 : Int), Inv t9 wv_1 →
    ((decide ((t9 : Int) < ((l_n : Nat) : Int))) = true →
      (0 ≤ (t9 : Int) ∧ (t9 : Int) < (l_n : Nat)) ∧ ptrS l_p fun ad => ∃ (t120 : ByteArray) (t121 : Bool) (t122_p : Option Addr) (t122_n : Nat) (t122_c : Nat) (t123_p : Option Addr) (t123_n : Nat) (t123_c : Nat), Loads P 82 (ad.add (t9.toNat * 4)) (.agg #[(.string t120), (.bool t121), (.slice t122_p t122_n t122_c), (.slice t123_p t123_n t123_c)]) wv_1 ∧ ∀ (r_1 : Nat) (wv_2 : World), New wv_1 (.cells ⟨[(.string ByteArray.empty), (.bool false), (.slice none 0 0), (.slice none 0 0)]⟩ 82 (0, 0)) r_1 wv_2 →
      ∃ wv_3, Stores P 82 ⟨r_1, 0, none⟩ (.agg #[(.string t120), (.bool t121), (.slice t122_p t122_n t122_c), (.slice t123_p t123_n t123_c)]) wv_2 wv_3 ∧
      ∃ (t14 : ByteArray), Loads P 9 ((⟨r_1, 0, none⟩ : Addr).add 0) (.string t14) wv_3 ∧ ((decide (t14 = cur)) = true →
        ∃ (t180 : Bool) (t181_p : Option Addr) (t181_n : Nat) (t181_c : Nat) (t182_p : Option Addr) (t182_n : Nat) (t182_c : Nat), Loads P 28 ((⟨r_1, 0, none⟩ : Addr).add 1) (.agg #[(.bool t180), (.slice t181_p t181_n t181_c), (.slice t182_p t182_n t182_c)]) wv_3 ∧ Calls P 45 ⟨[(.agg #[(.bool t180), (.slice t181_p t181_n t181_c), (.slice t182_p t182_n t182_c)])]⟩ wv_3 fun e wv_4 =>
        ∃ (t190 : Bool) (t191_p : Option Addr) (t191_n : Nat) (t191_c : Nat) (t192_p : Option Addr) (t192_n : Nat) (t192_c : Nat), e = .returned (.agg #[(.bool t190), (.slice t191_p t191_n t191_c), (.slice t192_p t192_n t192_c)]) ∧
        ∃ wv_5, Stores P 28 ⟨r, 0, none⟩ (.agg #[(.bool t190), (.slice t191_p t191_n t191_c), (.slice t192_p t192_n t192_c)]) wv_4 wv_5 ∧
        ∃ (r0 : Bool) (r1_p : Option Addr) (r1_n : Nat) (r1_c : Nat) (r2_p : Option Addr) (r2_n : Nat) (r2_c : Nat), Loads P 28 ⟨r, 0, none⟩ (.agg #[(.bool r0), (.slice r1_p r1_n r1_c), (.slice r2_p r2_n r2_c)]) wv_5 ∧ R (.agg #[(.bool r0), (.slice r1_p r1_n r1_c), (.slice r2_p r2_n r2_c)]) wv_5) ∧
      ((decide (t14 = cur)) = false →
        ∃ t20 : Int, t20 = IntKind.wrap .i64 (t9 + 1) ∧ Inv t20 wv_3 ∧ mu t20 wv_3 < mu t9 wv_1)) ∧
    ((decide ((t9 : Int) < ((l_n : Nat) : Int))) = false →
      Calls P 46 ⟨[]⟩ wv_1 fun e_1 wv_6 =>
      ∃ (t210 : Bool) (t211_p : Option Addr) (t211_n : Nat) (t211_c : Nat) (t212_p : Option Addr) (t212_n : Nat) (t212_c : Nat), e_1 = .returned (.agg #[(.bool t210), (.slice t211_p t211_n t211_c), (.slice t212_p t212_n t212_c)]) ∧
      ∃ wv_7, Stores P 28 ⟨r, 0, none⟩ (.agg #[(.bool t210), (.slice t211_p t211_n t211_c), (.slice t212_p t212_n t212_c)]) wv_6 wv_7 ∧
      ∃ (r0_1 : Bool) (r1_p_1 : Option Addr) (r1_n_1 : Nat) (r1_c_1 : Nat) (r2_p_1 : Option Addr) (r2_n_1 : Nat) (r2_c_1 : Nat), Loads P 28 ⟨r, 0, none⟩ (.agg #[(.bool r0_1), (.slice r1_p_1 r1_n_1 r1_c_1), (.slice r2_p_1 r2_n_1 r2_c_1)]) wv_7 ∧ R (.agg #[(.bool r0_1), (.slice r1_p_1 r1_n_1 r1_c_1), (.slice r2_p_1 r2_n_1 r2_c_1)]) wv_7)
theorem impl_RestOf_eq (l_p : Option Addr) (l_n : Nat) (l_c : Nat) (cur : ByteArray) (w : World) (R : Value → World → Prop) : impl_RestOf l_p l_n l_c cur w R = fsem P Try.f11 (fun k => cond (Nat.beq k 3) [(9, .one (.int .i64))] ([])) [(.slice l_p l_n l_c), (.string cur)] R w := by kernel_rfl
theorem impl_RestOf_ret {l_p : Option Addr} {l_n : Nat} {l_c : Nat} {cur : ByteArray} {w : World} {R : Value → World → Prop} (h : impl_RestOf l_p l_n l_c cur w R) : Ret P 11 [(.slice l_p l_n l_c), (.string cur)] w R :=
  Ret.of_fsem Try.func11 rfl (Eq.mp (impl_RestOf_eq l_p l_n l_c cur w R) h)

def spec_BalanceOf (b0_p : Option Addr) (b0_n : Nat) (b0_c : Nat) (name : ByteArray) (w : World) (R : Value → World → Prop) : Prop :=
  ∀ (r : Nat) (wv : World), New w (.cells ⟨[(.slice b0_p b0_n b0_c)]⟩ 47 (0, 0)) r wv →
  ∀ (r_1 : Nat) (wv_1 : World), New wv (.cells ⟨[(.string ByteArray.empty), (.bool false), (.slice none 0 0)]⟩ 42 (0, 0)) r_1 wv_1 →
  ∃ (t70_p : Option Addr) (t70_n : Nat) (t70_c : Nat), Loads P 47 ⟨r, 0, none⟩ (.agg #[(.slice t70_p t70_n t70_c)]) wv_1 ∧ Calls P 55 ⟨[(.agg #[(.slice t70_p t70_n t70_c)]), (.string name)]⟩ wv_1 fun e wv_2 =>
  ∃ (t9 : Int), e = .returned (.int .i64 t9) ∧
  ((decide ((t9 : Int) < 0)) = true →
    ∃ wv_3, Stores P 42 ⟨r_1, 0, none⟩ (.agg #[(.string ByteArray.empty), (.bool false), (.slice none 0 0)]) wv_2 wv_3 ∧
    ∃ (r0 : ByteArray) (r1 : Bool) (r2_p : Option Addr) (r2_n : Nat) (r2_c : Nat), Loads P 42 ⟨r_1, 0, none⟩ (.agg #[(.string r0), (.bool r1), (.slice r2_p r2_n r2_c)]) wv_3 ∧ R (.tuple #[(.agg #[(.string r0), (.bool r1), (.slice r2_p r2_n r2_c)]), (.bool false)]) wv_3) ∧
  ((decide ((t9 : Int) < 0)) = false →
    ∃ (t14_p : Option Addr) (t14_n : Nat) (t14_c : Nat), Loads P 45 ((⟨r, 0, none⟩ : Addr).add 0) (.slice t14_p t14_n t14_c) wv_2 ∧ (0 ≤ (t9 : Int) ∧ (t9 : Int) < (t14_n : Nat)) ∧ ptrS t14_p fun ad => ∃ (t180 : ByteArray) (t181 : Bool) (t182_p : Option Addr) (t182_n : Nat) (t182_c : Nat), Loads P 42 ((ad.add (t9.toNat * 4)).add 1) (.agg #[(.string t180), (.bool t181), (.slice t182_p t182_n t182_c)]) wv_2 ∧ Calls P 56 ⟨[(.agg #[(.string t180), (.bool t181), (.slice t182_p t182_n t182_c)])]⟩ wv_2 fun e_1 wv_4 =>
    ∃ (t190 : ByteArray) (t191 : Bool) (t192_p : Option Addr) (t192_n : Nat) (t192_c : Nat), e_1 = .returned (.agg #[(.string t190), (.bool t191), (.slice t192_p t192_n t192_c)]) ∧
    ∃ wv_5, Stores P 42 ⟨r_1, 0, none⟩ (.agg #[(.string t190), (.bool t191), (.slice t192_p t192_n t192_c)]) wv_4 wv_5 ∧
    ∃ (r0_1 : ByteArray) (r1_1 : Bool) (r2_p_1 : Option Addr) (r2_n_1 : Nat) (r2_c_1 : Nat), Loads P 42 ⟨r_1, 0, none⟩ (.agg #[(.string r0_1), (.bool r1_1), (.slice r2_p_1 r2_n_1 r2_c_1)]) wv_5 ∧ R (.tuple #[(.agg #[(.string r0_1), (.bool r1_1), (.slice r2_p_1 r2_n_1 r2_c_1)]), (.bool true)]) wv_5)
theorem spec_BalanceOf_eq (b0_p : Option Addr) (b0_n : Nat) (b0_c : Nat) (name : ByteArray) (w : World) (R : Value → World → Prop) : spec_BalanceOf b0_p b0_n b0_c name w R = fsem P Try.f18 (fun k => []) [(.agg #[(.slice b0_p b0_n b0_c)]), (.string name)] R w := by kernel_rfl
theorem spec_BalanceOf_ret {b0_p : Option Addr} {b0_n : Nat} {b0_c : Nat} {name : ByteArray} {w : World} {R : Value → World → Prop} (h : spec_BalanceOf b0_p b0_n b0_c name w R) : Ret P 18 [(.agg #[(.slice b0_p b0_n b0_c)]), (.string name)] w R :=
  Ret.of_fsem Try.func18 rfl (Eq.mp (spec_BalanceOf_eq b0_p b0_n b0_c name w R) h)

def impl_BalanceOf (b0_p : Option Addr) (b0_n : Nat) (b0_c : Nat) (name : ByteArray) (w : World) (R : Value → World → Prop) : Prop :=
  ∀ (r : Nat) (wv : World), New w (.cells ⟨[(.slice b0_p b0_n b0_c)]⟩ 47 (0, 0)) r wv →
  ∀ (r_1 : Nat) (wv_1 : World), New wv (.cells ⟨[(.string ByteArray.empty), (.bool false), (.slice none 0 0)]⟩ 42 (0, 0)) r_1 wv_1 →
  ∃ (t70_p : Option Addr) (t70_n : Nat) (t70_c : Nat), Loads P 47 ⟨r, 0, none⟩ (.agg #[(.slice t70_p t70_n t70_c)]) wv_1 ∧ Calls P 58 ⟨[(.agg #[(.slice t70_p t70_n t70_c)]), (.string name)]⟩ wv_1 fun e wv_2 =>
  ∃ (t9 : Int), e = .returned (.int .i64 t9) ∧
  ((decide ((t9 : Int) < 0)) = true →
    ∃ wv_3, Stores P 42 ⟨r_1, 0, none⟩ (.agg #[(.string ByteArray.empty), (.bool false), (.slice none 0 0)]) wv_2 wv_3 ∧
    ∃ (r0 : ByteArray) (r1 : Bool) (r2_p : Option Addr) (r2_n : Nat) (r2_c : Nat), Loads P 42 ⟨r_1, 0, none⟩ (.agg #[(.string r0), (.bool r1), (.slice r2_p r2_n r2_c)]) wv_3 ∧ R (.tuple #[(.agg #[(.string r0), (.bool r1), (.slice r2_p r2_n r2_c)]), (.bool false)]) wv_3) ∧
  ((decide ((t9 : Int) < 0)) = false →
    ∃ (t14_p : Option Addr) (t14_n : Nat) (t14_c : Nat), Loads P 45 ((⟨r, 0, none⟩ : Addr).add 0) (.slice t14_p t14_n t14_c) wv_2 ∧ (0 ≤ (t9 : Int) ∧ (t9 : Int) < (t14_n : Nat)) ∧ ptrS t14_p fun ad => ∃ (t180 : ByteArray) (t181 : Bool) (t182_p : Option Addr) (t182_n : Nat) (t182_c : Nat), Loads P 42 ((ad.add (t9.toNat * 4)).add 1) (.agg #[(.string t180), (.bool t181), (.slice t182_p t182_n t182_c)]) wv_2 ∧ Calls P 59 ⟨[(.agg #[(.string t180), (.bool t181), (.slice t182_p t182_n t182_c)])]⟩ wv_2 fun e_1 wv_4 =>
    ∃ (t190 : ByteArray) (t191 : Bool) (t192_p : Option Addr) (t192_n : Nat) (t192_c : Nat), e_1 = .returned (.agg #[(.string t190), (.bool t191), (.slice t192_p t192_n t192_c)]) ∧
    ∃ wv_5, Stores P 42 ⟨r_1, 0, none⟩ (.agg #[(.string t190), (.bool t191), (.slice t192_p t192_n t192_c)]) wv_4 wv_5 ∧
    ∃ (r0_1 : ByteArray) (r1_1 : Bool) (r2_p_1 : Option Addr) (r2_n_1 : Nat) (r2_c_1 : Nat), Loads P 42 ⟨r_1, 0, none⟩ (.agg #[(.string r0_1), (.bool r1_1), (.slice r2_p_1 r2_n_1 r2_c_1)]) wv_5 ∧ R (.tuple #[(.agg #[(.string r0_1), (.bool r1_1), (.slice r2_p_1 r2_n_1 r2_c_1)]), (.bool true)]) wv_5)
theorem impl_BalanceOf_eq (b0_p : Option Addr) (b0_n : Nat) (b0_c : Nat) (name : ByteArray) (w : World) (R : Value → World → Prop) : impl_BalanceOf b0_p b0_n b0_c name w R = fsem P Try.f20 (fun k => []) [(.agg #[(.slice b0_p b0_n b0_c)]), (.string name)] R w := by kernel_rfl
theorem impl_BalanceOf_ret {b0_p : Option Addr} {b0_n : Nat} {b0_c : Nat} {name : ByteArray} {w : World} {R : Value → World → Prop} (h : impl_BalanceOf b0_p b0_n b0_c name w R) : Ret P 20 [(.agg #[(.slice b0_p b0_n b0_c)]), (.string name)] w R :=
  Ret.of_fsem Try.func20 rfl (Eq.mp (impl_BalanceOf_eq b0_p b0_n b0_c name w R) h)

def spec_TaxRateOk (r0 : Bool) (r1_p : Option Addr) (r1_n : Nat) (r1_c : Nat) (r2 : Int) (w : World) (R : Value → World → Prop) : Prop :=
  ∀ (r : Nat) (wv : World), New w (.cells ⟨[(.bool r0), (.slice r1_p r1_n r1_c), (.int .i64 r2)]⟩ 60 (0, 0)) r wv →
  ∃ (t30 : Bool) (t31_p : Option Addr) (t31_n : Nat) (t31_c : Nat) (t32 : Int), (∀ wv_1, Ext wv.drew wv_1 → Loads P 60 ⟨r, 0, none⟩ (.agg #[(.bool t30), (.slice t31_p t31_n t31_c), (.int .i64 t32)]) wv_1) ∧ Calls P 62 ⟨[(.agg #[(.bool t30), (.slice t31_p t31_n t31_c), (.int .i64 t32)])]⟩ wv.drew fun e wv_2 =>
  ∃ (t4 : Bool), e = .returned (.bool t4) ∧
  (t4 = true →
    ∃ (t8 : Bool), (∀ wv_3, Ext wv_2 wv_3 → Loads P 4 (((⟨r, 0, none⟩ : Addr).add 0).add 0) (.bool t8) wv_3) ∧ ((!t8) = true →
      ∃ (t14_p : Option Addr) (t14_n : Nat) (t14_c : Nat), (∀ wv_4, Ext wv_2 wv_4 → Loads P 24 (((⟨r, 0, none⟩ : Addr).add 0).add 1) (.slice t14_p t14_n t14_c) wv_4) ∧ ((decide ((((t14_n : Nat) : Int) : Int) ≤ 1)) = true →
        ∃ (t190 : Bool) (t191_p : Option Addr) (t191_n : Nat) (t191_c : Nat) (t192 : Int), (∀ wv_5, Ext wv_2 wv_5 → Loads P 60 ⟨r, 0, none⟩ (.agg #[(.bool t190), (.slice t191_p t191_n t191_c), (.int .i64 t192)]) wv_5) ∧ Calls P 64 ⟨[(.int .i64 1)]⟩ wv_2 fun e_1 wv_6 =>
        ∃ (t200 : Bool) (t201_p : Option Addr) (t201_n : Nat) (t201_c : Nat), e_1 = .returned (.agg #[(.bool t200), (.slice t201_p t201_n t201_c)]) ∧
        Ext wv_2 wv_6 ∧ Calls P 63 ⟨[(.agg #[(.bool t190), (.slice t191_p t191_n t191_c), (.int .i64 t192)]), (.agg #[(.bool t200), (.slice t201_p t201_n t201_c), (.int .i64 0)])]⟩ wv_6 fun e_2 wv_7 =>
        ∃ (t22 : Int), e_2 = .returned (.int .i64 t22) ∧
        R (.bool (decide ((t22 : Int) ≤ 0))) wv_7) ∧
      ((decide ((((t14_n : Nat) : Int) : Int) ≤ 1)) = false →
        R (.bool false) wv_2)) ∧
    ((!t8) = false →
      (false = true →
        ∃ (t190_1 : Bool) (t191_p_1 : Option Addr) (t191_n_1 : Nat) (t191_c_1 : Nat) (t192_1 : Int), (∀ wv_8, Ext wv_2 wv_8 → Loads P 60 ⟨r, 0, none⟩ (.agg #[(.bool t190_1), (.slice t191_p_1 t191_n_1 t191_c_1), (.int .i64 t192_1)]) wv_8) ∧ Calls P 64 ⟨[(.int .i64 1)]⟩ wv_2 fun e_3 wv_9 =>
        ∃ (t200_1 : Bool) (t201_p_1 : Option Addr) (t201_n_1 : Nat) (t201_c_1 : Nat), e_3 = .returned (.agg #[(.bool t200_1), (.slice t201_p_1 t201_n_1 t201_c_1)]) ∧
        Ext wv_2 wv_9 ∧ Calls P 63 ⟨[(.agg #[(.bool t190_1), (.slice t191_p_1 t191_n_1 t191_c_1), (.int .i64 t192_1)]), (.agg #[(.bool t200_1), (.slice t201_p_1 t201_n_1 t201_c_1), (.int .i64 0)])]⟩ wv_9 fun e_4 wv_10 =>
        ∃ (t22_1 : Int), e_4 = .returned (.int .i64 t22_1) ∧
        R (.bool (decide ((t22_1 : Int) ≤ 0))) wv_10) ∧
      (false = false →
        R (.bool false) wv_2))) ∧
  (t4 = false →
    (false = true →
      ∃ (t14_p_1 : Option Addr) (t14_n_1 : Nat) (t14_c_1 : Nat), (∀ wv_11, Ext wv_2 wv_11 → Loads P 24 (((⟨r, 0, none⟩ : Addr).add 0).add 1) (.slice t14_p_1 t14_n_1 t14_c_1) wv_11) ∧ ((decide ((((t14_n_1 : Nat) : Int) : Int) ≤ 1)) = true →
        ∃ (t190_2 : Bool) (t191_p_2 : Option Addr) (t191_n_2 : Nat) (t191_c_2 : Nat) (t192_2 : Int), (∀ wv_12, Ext wv_2 wv_12 → Loads P 60 ⟨r, 0, none⟩ (.agg #[(.bool t190_2), (.slice t191_p_2 t191_n_2 t191_c_2), (.int .i64 t192_2)]) wv_12) ∧ Calls P 64 ⟨[(.int .i64 1)]⟩ wv_2 fun e_5 wv_13 =>
        ∃ (t200_2 : Bool) (t201_p_2 : Option Addr) (t201_n_2 : Nat) (t201_c_2 : Nat), e_5 = .returned (.agg #[(.bool t200_2), (.slice t201_p_2 t201_n_2 t201_c_2)]) ∧
        Ext wv_2 wv_13 ∧ Calls P 63 ⟨[(.agg #[(.bool t190_2), (.slice t191_p_2 t191_n_2 t191_c_2), (.int .i64 t192_2)]), (.agg #[(.bool t200_2), (.slice t201_p_2 t201_n_2 t201_c_2), (.int .i64 0)])]⟩ wv_13 fun e_6 wv_14 =>
        ∃ (t22_2 : Int), e_6 = .returned (.int .i64 t22_2) ∧
        R (.bool (decide ((t22_2 : Int) ≤ 0))) wv_14) ∧
      ((decide ((((t14_n_1 : Nat) : Int) : Int) ≤ 1)) = false →
        R (.bool false) wv_2)) ∧
    (false = false →
      (false = true →
        ∃ (t190_3 : Bool) (t191_p_3 : Option Addr) (t191_n_3 : Nat) (t191_c_3 : Nat) (t192_3 : Int), (∀ wv_15, Ext wv_2 wv_15 → Loads P 60 ⟨r, 0, none⟩ (.agg #[(.bool t190_3), (.slice t191_p_3 t191_n_3 t191_c_3), (.int .i64 t192_3)]) wv_15) ∧ Calls P 64 ⟨[(.int .i64 1)]⟩ wv_2 fun e_7 wv_16 =>
        ∃ (t200_3 : Bool) (t201_p_3 : Option Addr) (t201_n_3 : Nat) (t201_c_3 : Nat), e_7 = .returned (.agg #[(.bool t200_3), (.slice t201_p_3 t201_n_3 t201_c_3)]) ∧
        Ext wv_2 wv_16 ∧ Calls P 63 ⟨[(.agg #[(.bool t190_3), (.slice t191_p_3 t191_n_3 t191_c_3), (.int .i64 t192_3)]), (.agg #[(.bool t200_3), (.slice t201_p_3 t201_n_3 t201_c_3), (.int .i64 0)])]⟩ wv_16 fun e_8 wv_17 =>
        ∃ (t22_3 : Int), e_8 = .returned (.int .i64 t22_3) ∧
        R (.bool (decide ((t22_3 : Int) ≤ 0))) wv_17) ∧
      (false = false →
        R (.bool false) wv_2)))
theorem spec_TaxRateOk_eq (r0 : Bool) (r1_p : Option Addr) (r1_n : Nat) (r1_c : Nat) (r2 : Int) (w : World) (R : Value → World → Prop) : spec_TaxRateOk r0 r1_p r1_n r1_c r2 w R = fsem P Try.f27 (fun k => []) [(.agg #[(.bool r0), (.slice r1_p r1_n r1_c), (.int .i64 r2)])] R w := by kernel_rfl
theorem spec_TaxRateOk_ret {r0 : Bool} {r1_p : Option Addr} {r1_n : Nat} {r1_c : Nat} {r2 : Int} {w : World} {R : Value → World → Prop} (h : spec_TaxRateOk r0 r1_p r1_n r1_c r2 w R) : Ret P 27 [(.agg #[(.bool r0), (.slice r1_p r1_n r1_c), (.int .i64 r2)])] w R :=
  Ret.of_fsem Try.func27 rfl (Eq.mp (spec_TaxRateOk_eq r0 r1_p r1_n r1_c r2 w R) h)

def impl_TaxRateOk (r0 : Bool) (r1_p : Option Addr) (r1_n : Nat) (r1_c : Nat) (r2 : Int) (w : World) (R : Value → World → Prop) : Prop :=
  ∀ (r : Nat) (wv : World), New w (.cells ⟨[(.bool r0), (.slice r1_p r1_n r1_c), (.int .i64 r2)]⟩ 60 (0, 0)) r wv →
  ∃ (t30 : Bool) (t31_p : Option Addr) (t31_n : Nat) (t31_c : Nat) (t32 : Int), (∀ wv_1, Ext wv.drew wv_1 → Loads P 60 ⟨r, 0, none⟩ (.agg #[(.bool t30), (.slice t31_p t31_n t31_c), (.int .i64 t32)]) wv_1) ∧ Calls P 65 ⟨[(.agg #[(.bool t30), (.slice t31_p t31_n t31_c), (.int .i64 t32)])]⟩ wv.drew fun e wv_2 =>
  ∃ (t4 : Bool), e = .returned (.bool t4) ∧
  (t4 = true →
    ∃ (t8_p : Option Addr) (t8_n : Nat) (t8_c : Nat), (∀ wv_3, Ext wv_2 wv_3 → Loads P 24 (((⟨r, 0, none⟩ : Addr).add 0).add 1) (.slice t8_p t8_n t8_c) wv_3) ∧ ((decide ((((t8_n : Nat) : Int) : Int) ≤ 1)) = true →
      ∃ (t15 : Bool), (∀ wv_4, Ext wv_2 wv_4 → Loads P 4 (((⟨r, 0, none⟩ : Addr).add 0).add 0) (.bool t15) wv_4) ∧ ((!t15) = true →
        ∃ (t190 : Bool) (t191_p : Option Addr) (t191_n : Nat) (t191_c : Nat) (t192 : Int), (∀ wv_5, Ext wv_2 wv_5 → Loads P 60 ⟨r, 0, none⟩ (.agg #[(.bool t190), (.slice t191_p t191_n t191_c), (.int .i64 t192)]) wv_5) ∧ Calls P 67 ⟨[(.int .i64 1)]⟩ wv_2 fun e_1 wv_6 =>
        ∃ (t200 : Bool) (t201_p : Option Addr) (t201_n : Nat) (t201_c : Nat), e_1 = .returned (.agg #[(.bool t200), (.slice t201_p t201_n t201_c)]) ∧
        Ext wv_2 wv_6 ∧ Calls P 66 ⟨[(.agg #[(.bool t190), (.slice t191_p t191_n t191_c), (.int .i64 t192)]), (.agg #[(.bool t200), (.slice t201_p t201_n t201_c), (.int .i64 0)])]⟩ wv_6 fun e_2 wv_7 =>
        ∃ (t22 : Int), e_2 = .returned (.int .i64 t22) ∧
        R (.bool (decide ((t22 : Int) ≤ 0))) wv_7) ∧
      ((!t15) = false →
        R (.bool false) wv_2)) ∧
    ((decide ((((t8_n : Nat) : Int) : Int) ≤ 1)) = false →
      (false = true →
        ∃ (t190_1 : Bool) (t191_p_1 : Option Addr) (t191_n_1 : Nat) (t191_c_1 : Nat) (t192_1 : Int), (∀ wv_8, Ext wv_2 wv_8 → Loads P 60 ⟨r, 0, none⟩ (.agg #[(.bool t190_1), (.slice t191_p_1 t191_n_1 t191_c_1), (.int .i64 t192_1)]) wv_8) ∧ Calls P 67 ⟨[(.int .i64 1)]⟩ wv_2 fun e_3 wv_9 =>
        ∃ (t200_1 : Bool) (t201_p_1 : Option Addr) (t201_n_1 : Nat) (t201_c_1 : Nat), e_3 = .returned (.agg #[(.bool t200_1), (.slice t201_p_1 t201_n_1 t201_c_1)]) ∧
        Ext wv_2 wv_9 ∧ Calls P 66 ⟨[(.agg #[(.bool t190_1), (.slice t191_p_1 t191_n_1 t191_c_1), (.int .i64 t192_1)]), (.agg #[(.bool t200_1), (.slice t201_p_1 t201_n_1 t201_c_1), (.int .i64 0)])]⟩ wv_9 fun e_4 wv_10 =>
        ∃ (t22_1 : Int), e_4 = .returned (.int .i64 t22_1) ∧
        R (.bool (decide ((t22_1 : Int) ≤ 0))) wv_10) ∧
      (false = false →
        R (.bool false) wv_2))) ∧
  (t4 = false →
    (false = true →
      ∃ (t15_1 : Bool), (∀ wv_11, Ext wv_2 wv_11 → Loads P 4 (((⟨r, 0, none⟩ : Addr).add 0).add 0) (.bool t15_1) wv_11) ∧ ((!t15_1) = true →
        ∃ (t190_2 : Bool) (t191_p_2 : Option Addr) (t191_n_2 : Nat) (t191_c_2 : Nat) (t192_2 : Int), (∀ wv_12, Ext wv_2 wv_12 → Loads P 60 ⟨r, 0, none⟩ (.agg #[(.bool t190_2), (.slice t191_p_2 t191_n_2 t191_c_2), (.int .i64 t192_2)]) wv_12) ∧ Calls P 67 ⟨[(.int .i64 1)]⟩ wv_2 fun e_5 wv_13 =>
        ∃ (t200_2 : Bool) (t201_p_2 : Option Addr) (t201_n_2 : Nat) (t201_c_2 : Nat), e_5 = .returned (.agg #[(.bool t200_2), (.slice t201_p_2 t201_n_2 t201_c_2)]) ∧
        Ext wv_2 wv_13 ∧ Calls P 66 ⟨[(.agg #[(.bool t190_2), (.slice t191_p_2 t191_n_2 t191_c_2), (.int .i64 t192_2)]), (.agg #[(.bool t200_2), (.slice t201_p_2 t201_n_2 t201_c_2), (.int .i64 0)])]⟩ wv_13 fun e_6 wv_14 =>
        ∃ (t22_2 : Int), e_6 = .returned (.int .i64 t22_2) ∧
        R (.bool (decide ((t22_2 : Int) ≤ 0))) wv_14) ∧
      ((!t15_1) = false →
        R (.bool false) wv_2)) ∧
    (false = false →
      (false = true →
        ∃ (t190_3 : Bool) (t191_p_3 : Option Addr) (t191_n_3 : Nat) (t191_c_3 : Nat) (t192_3 : Int), (∀ wv_15, Ext wv_2 wv_15 → Loads P 60 ⟨r, 0, none⟩ (.agg #[(.bool t190_3), (.slice t191_p_3 t191_n_3 t191_c_3), (.int .i64 t192_3)]) wv_15) ∧ Calls P 67 ⟨[(.int .i64 1)]⟩ wv_2 fun e_7 wv_16 =>
        ∃ (t200_3 : Bool) (t201_p_3 : Option Addr) (t201_n_3 : Nat) (t201_c_3 : Nat), e_7 = .returned (.agg #[(.bool t200_3), (.slice t201_p_3 t201_n_3 t201_c_3)]) ∧
        Ext wv_2 wv_16 ∧ Calls P 66 ⟨[(.agg #[(.bool t190_3), (.slice t191_p_3 t191_n_3 t191_c_3), (.int .i64 t192_3)]), (.agg #[(.bool t200_3), (.slice t201_p_3 t201_n_3 t201_c_3), (.int .i64 0)])]⟩ wv_16 fun e_8 wv_17 =>
        ∃ (t22_3 : Int), e_8 = .returned (.int .i64 t22_3) ∧
        R (.bool (decide ((t22_3 : Int) ≤ 0))) wv_17) ∧
      (false = false →
        R (.bool false) wv_2)))
theorem impl_TaxRateOk_eq (r0 : Bool) (r1_p : Option Addr) (r1_n : Nat) (r1_c : Nat) (r2 : Int) (w : World) (R : Value → World → Prop) : impl_TaxRateOk r0 r1_p r1_n r1_c r2 w R = fsem P Try.f29 (fun k => []) [(.agg #[(.bool r0), (.slice r1_p r1_n r1_c), (.int .i64 r2)])] R w := by kernel_rfl
theorem impl_TaxRateOk_ret {r0 : Bool} {r1_p : Option Addr} {r1_n : Nat} {r1_c : Nat} {r2 : Int} {w : World} {R : Value → World → Prop} (h : impl_TaxRateOk r0 r1_p r1_n r1_c r2 w R) : Ret P 29 [(.agg #[(.bool r0), (.slice r1_p r1_n r1_c), (.int .i64 r2)])] w R :=
  Ret.of_fsem Try.func29 rfl (Eq.mp (impl_TaxRateOk_eq r0 r1_p r1_n r1_c r2 w R) h)

def spec_StepsOk_j0 (l_p : Option Addr) (l_n : Nat) (W : World) (R : Value → World → Prop) : Prop :=
  ∃ (Inv : Int → World → Prop) (mu : Int → World → Nat), Inv 0 W ∧
  ∀ (junk : Fr) (wv_1 : World) (t18 : Int), Inv t18 wv_1 →
    ((decide ((t18 : Int) < ((l_n : Nat) : Int))) = true →
      (0 ≤ (t18 : Int) ∧ (t18 : Int) < (l_n : Nat)) ∧ ptrS l_p fun ad => ∃ (t220 : Int) (t221 : Bool) (t222_p : Option Addr) (t222_n : Nat) (t222_c : Nat) (t223 : Int), Loads P 106 (ad.add (t18.toNat * 4)) (.agg #[(.int .i64 t220), (.bool t221), (.slice t222_p t222_n t222_c), (.int .i64 t223)]) wv_1 ∧ ∀ (r : Nat) (wv_2 : World), New wv_1 (.cells ⟨[(.int .i64 0), (.bool false), (.slice none 0 0), (.int .i64 0)]⟩ 106 (0, 0)) r wv_2 →
      ∃ wv_3, Stores P 106 ⟨r, 0, none⟩ (.agg #[(.int .i64 t220), (.bool t221), (.slice t222_p t222_n t222_c), (.int .i64 t223)]) wv_2 wv_3 ∧
      ∃ (t24 : Int), (∀ wv_4, Ext wv_3.drew wv_4 → Loads P 3 ((⟨r, 0, none⟩ : Addr).add 0) (.int .i64 t24) wv_4) ∧ Calls P 69 ⟨[(.int .i64 t24), (.int .i64 0), (.int .i64 1000000000)]⟩ wv_3.drew fun e_1 wv_5 =>
      ∃ (t25 : Bool), e_1 = .returned (.bool t25) ∧
      ((!t25) = true →
        (true = true →
          (true = true →
            R (.bool false) wv_5) ∧
          (true = false →
            ∃ t48 : Int, t48 = IntKind.wrap .i64 (t18 + 1) ∧ Inv t48 wv_5 ∧ mu t48 wv_5 < mu t18 wv_1)) ∧
        (true = false →
          ((decide ((0 : Int) < t18)) = true →
            ∃ t39 : Int, t39 = IntKind.wrap .i64 (t18 - 1) ∧ (0 ≤ (t39 : Int) ∧ (t39 : Int) < (l_n : Nat)) ∧ ptrS l_p fun ad_1 => ∃ (t42 : Int), (∀ wv_6, Ext wv_5 wv_6 → Loads P 3 ((ad_1.add (t39.toNat * 4)).add 0) (.int .i64 t42) wv_6) ∧ ∃ (t44 : Int), (∀ wv_7, Ext wv_5 wv_7 → Loads P 3 ((⟨r, 0, none⟩ : Addr).add 0) (.int .i64 t44) wv_7) ∧ ((decide ((t44 : Int) ≤ t42)) = true →
              R (.bool false) wv_5) ∧
            ((decide ((t44 : Int) ≤ t42)) = false →
              ∃ t48_1 : Int, t48_1 = IntKind.wrap .i64 (t18 + 1) ∧ Inv t48_1 wv_5 ∧ mu t48_1 wv_5 < mu t18 wv_1)) ∧
          ((decide ((0 : Int) < t18)) = false →
            (false = true →
              R (.bool false) wv_5) ∧
            (false = false →
              ∃ t48_2 : Int, t48_2 = IntKind.wrap .i64 (t18 + 1) ∧ Inv t48_2 wv_5 ∧ mu t48_2 wv_5 < mu t18 wv_1)))) ∧
      ((!t25) = false →
        ∃ (t290 : Bool) (t291_p : Option Addr) (t291_n : Nat) (t291_c : Nat) (t292 : Int), (∀ wv_8, Ext wv_5 wv_8 → Loads P 60 ((⟨r, 0, none⟩ : Addr).add 1) (.agg #[(.bool t290), (.slice t291_p t291_n t291_c), (.int .i64 t292)]) wv_8) ∧ Calls P 27 ⟨[(.agg #[(.bool t290), (.slice t291_p t291_n t291_c), (.int .i64 t292)])]⟩ wv_5 fun e_2 wv_9 =>
        ∃ (t30 : Bool), e_2 = .returned (.bool t30) ∧
        ((!t30) = true →
          (true = true →
            R (.bool false) wv_9) ∧
          (true = false →
            ∃ t48_3 : Int, t48_3 = IntKind.wrap .i64 (t18 + 1) ∧ Inv t48_3 wv_9 ∧ mu t48_3 wv_9 < mu t18 wv_1)) ∧
        ((!t30) = false →
          ((decide ((0 : Int) < t18)) = true →
            ∃ t39_1 : Int, t39_1 = IntKind.wrap .i64 (t18 - 1) ∧ (0 ≤ (t39_1 : Int) ∧ (t39_1 : Int) < (l_n : Nat)) ∧ ptrS l_p fun ad_2 => ∃ (t42_1 : Int), (∀ wv_10, Ext wv_9 wv_10 → Loads P 3 ((ad_2.add (t39_1.toNat * 4)).add 0) (.int .i64 t42_1) wv_10) ∧ ∃ (t44_1 : Int), (∀ wv_11, Ext wv_9 wv_11 → Loads P 3 ((⟨r, 0, none⟩ : Addr).add 0) (.int .i64 t44_1) wv_11) ∧ ((decide ((t44_1 : Int) ≤ t42_1)) = true →
              R (.bool false) wv_9) ∧
            ((decide ((t44_1 : Int) ≤ t42_1)) = false →
              ∃ t48_4 : Int, t48_4 = IntKind.wrap .i64 (t18 + 1) ∧ Inv t48_4 wv_9 ∧ mu t48_4 wv_9 < mu t18 wv_1)) ∧
          ((decide ((0 : Int) < t18)) = false →
            (false = true →
              R (.bool false) wv_9) ∧
            (false = false →
              ∃ t48_5 : Int, t48_5 = IntKind.wrap .i64 (t18 + 1) ∧ Inv t48_5 wv_9 ∧ mu t48_5 wv_9 < mu t18 wv_1))))) ∧
    ((decide ((t18 : Int) < ((l_n : Nat) : Int))) = false →
      R (.bool true) wv_1)
def spec_StepsOk (l_p : Option Addr) (l_n : Nat) (l_c : Nat) (w : World) (R : Value → World → Prop) : Prop :=
  Calls P 69 ⟨[(.int .i64 ((l_n : Nat) : Int)), (.int .i64 1), (.int .i64 8)]⟩ w fun e wv =>
  ∃ (t7 : Bool), e = .returned (.bool t7) ∧
  ((!t7) = true →
    (true = true →
      R (.bool false) wv) ∧
    (true = false →
      spec_StepsOk_j0 l_p l_n wv R)) ∧
  ((!t7) = false →
    (0 ≤ (0 : Int) ∧ (0 : Int) < (l_n : Nat)) ∧ ptrS l_p fun ad_3 => ∃ (t13 : Int), Loads P 3 ((ad_3.add (0 * 4)).add 0) (.int .i64 t13) wv ∧ ((decide ((t13 : Int) ≠ 0)) = true →
      R (.bool false) wv) ∧
    ((decide ((t13 : Int) ≠ 0)) = false →
      spec_StepsOk_j0 l_p l_n wv R))
theorem spec_StepsOk_eq (l_p : Option Addr) (l_n : Nat) (l_c : Nat) (w : World) (R : Value → World → Prop) : spec_StepsOk l_p l_n l_c w R = fsem P Try.f32 (fun k => cond (Nat.beq k 5) [(18, .one (.int .i64))] ([])) [(.slice l_p l_n l_c)] R w := by kernel_rfl
theorem spec_StepsOk_ret {l_p : Option Addr} {l_n : Nat} {l_c : Nat} {w : World} {R : Value → World → Prop} (h : spec_StepsOk l_p l_n l_c w R) : Ret P 32 [(.slice l_p l_n l_c)] w R :=
  Ret.of_fsem Try.func32 rfl (Eq.mp (spec_StepsOk_eq l_p l_n l_c w R) h)

def impl_StepsOk_j0 (l_p : Option Addr) (l_n : Nat) (W : World) (R : Value → World → Prop) : Prop :=
  ∃ (Inv : Int → World → Prop) (mu : Int → World → Nat), Inv 0 W ∧
  ∀ (junk : Fr) (wv : World) (t22 : Int), Inv t22 wv →
    ((decide ((t22 : Int) < ((l_n : Nat) : Int))) = true →
      (0 ≤ (t22 : Int) ∧ (t22 : Int) < (l_n : Nat)) ∧ ptrS l_p fun ad => ∃ (t260 : Int) (t261 : Bool) (t262_p : Option Addr) (t262_n : Nat) (t262_c : Nat) (t263 : Int), Loads P 106 (ad.add (t22.toNat * 4)) (.agg #[(.int .i64 t260), (.bool t261), (.slice t262_p t262_n t262_c), (.int .i64 t263)]) wv ∧ ∀ (r : Nat) (wv_1 : World), New wv (.cells ⟨[(.int .i64 0), (.bool false), (.slice none 0 0), (.int .i64 0)]⟩ 106 (0, 0)) r wv_1 →
      ∃ wv_2, Stores P 106 ⟨r, 0, none⟩ (.agg #[(.int .i64 t260), (.bool t261), (.slice t262_p t262_n t262_c), (.int .i64 t263)]) wv_1 wv_2 ∧
      ∃ (t28 : Int), (∀ wv_3, Ext wv_2.drew wv_3 → Loads P 3 ((⟨r, 0, none⟩ : Addr).add 0) (.int .i64 t28) wv_3) ∧ ((decide ((1000000000 : Int) < t28)) = true →
        (true = true →
          (true = true →
            R (.bool false) wv_2.drew) ∧
          (true = false →
            ∃ t51 : Int, t51 = IntKind.wrap .i64 (t22 + 1) ∧ Inv t51 wv_2.drew ∧ mu t51 wv_2.drew < mu t22 wv)) ∧
        (true = false →
          ∃ (t470 : Bool) (t471_p : Option Addr) (t471_n : Nat) (t471_c : Nat) (t472 : Int), (∀ wv_4, Ext wv_2.drew wv_4 → Loads P 60 ((⟨r, 0, none⟩ : Addr).add 1) (.agg #[(.bool t470), (.slice t471_p t471_n t471_c), (.int .i64 t472)]) wv_4) ∧ Calls P 29 ⟨[(.agg #[(.bool t470), (.slice t471_p t471_n t471_c), (.int .i64 t472)])]⟩ wv_2.drew fun e wv_5 =>
          ∃ (t48 : Bool), e = .returned (.bool t48) ∧
          ((!t48) = true →
            R (.bool false) wv_5) ∧
          ((!t48) = false →
            ∃ t51_1 : Int, t51_1 = IntKind.wrap .i64 (t22 + 1) ∧ Inv t51_1 wv_5 ∧ mu t51_1 wv_5 < mu t22 wv))) ∧
      ((decide ((1000000000 : Int) < t28)) = false →
        ((decide ((0 : Int) < t22)) = true →
          ∃ t36 : Int, t36 = IntKind.wrap .i64 (t22 - 1) ∧ (0 ≤ (t36 : Int) ∧ (t36 : Int) < (l_n : Nat)) ∧ ptrS l_p fun ad_1 => ∃ (t39 : Int), (∀ wv_6, Ext wv_2.drew wv_6 → Loads P 3 ((ad_1.add (t36.toNat * 4)).add 0) (.int .i64 t39) wv_6) ∧ ∃ (t41 : Int), (∀ wv_7, Ext wv_2.drew wv_7 → Loads P 3 ((⟨r, 0, none⟩ : Addr).add 0) (.int .i64 t41) wv_7) ∧ ((decide ((t41 : Int) ≤ t39)) = true →
            (true = true →
              R (.bool false) wv_2.drew) ∧
            (true = false →
              ∃ t51_2 : Int, t51_2 = IntKind.wrap .i64 (t22 + 1) ∧ Inv t51_2 wv_2.drew ∧ mu t51_2 wv_2.drew < mu t22 wv)) ∧
          ((decide ((t41 : Int) ≤ t39)) = false →
            ∃ (t470_1 : Bool) (t471_p_1 : Option Addr) (t471_n_1 : Nat) (t471_c_1 : Nat) (t472_1 : Int), (∀ wv_8, Ext wv_2.drew wv_8 → Loads P 60 ((⟨r, 0, none⟩ : Addr).add 1) (.agg #[(.bool t470_1), (.slice t471_p_1 t471_n_1 t471_c_1), (.int .i64 t472_1)]) wv_8) ∧ Calls P 29 ⟨[(.agg #[(.bool t470_1), (.slice t471_p_1 t471_n_1 t471_c_1), (.int .i64 t472_1)])]⟩ wv_2.drew fun e_1 wv_9 =>
            ∃ (t48_1 : Bool), e_1 = .returned (.bool t48_1) ∧
            ((!t48_1) = true →
              R (.bool false) wv_9) ∧
            ((!t48_1) = false →
              ∃ t51_3 : Int, t51_3 = IntKind.wrap .i64 (t22 + 1) ∧ Inv t51_3 wv_9 ∧ mu t51_3 wv_9 < mu t22 wv))) ∧
        ((decide ((0 : Int) < t22)) = false →
          (false = true →
            (true = true →
              R (.bool false) wv_2.drew) ∧
            (true = false →
              ∃ t51_4 : Int, t51_4 = IntKind.wrap .i64 (t22 + 1) ∧ Inv t51_4 wv_2.drew ∧ mu t51_4 wv_2.drew < mu t22 wv)) ∧
          (false = false →
            ∃ (t470_2 : Bool) (t471_p_2 : Option Addr) (t471_n_2 : Nat) (t471_c_2 : Nat) (t472_2 : Int), (∀ wv_10, Ext wv_2.drew wv_10 → Loads P 60 ((⟨r, 0, none⟩ : Addr).add 1) (.agg #[(.bool t470_2), (.slice t471_p_2 t471_n_2 t471_c_2), (.int .i64 t472_2)]) wv_10) ∧ Calls P 29 ⟨[(.agg #[(.bool t470_2), (.slice t471_p_2 t471_n_2 t471_c_2), (.int .i64 t472_2)])]⟩ wv_2.drew fun e_2 wv_11 =>
            ∃ (t48_2 : Bool), e_2 = .returned (.bool t48_2) ∧
            ((!t48_2) = true →
              R (.bool false) wv_11) ∧
            ((!t48_2) = false →
              ∃ t51_5 : Int, t51_5 = IntKind.wrap .i64 (t22 + 1) ∧ Inv t51_5 wv_11 ∧ mu t51_5 wv_11 < mu t22 wv))))) ∧
    ((decide ((t22 : Int) < ((l_n : Nat) : Int))) = false →
      R (.bool true) wv)
def impl_StepsOk (l_p : Option Addr) (l_n : Nat) (l_c : Nat) (w : World) (R : Value → World → Prop) : Prop :=
  ((decide ((((l_n : Nat) : Int) : Int) < 1)) = true →
    (true = true →
      (true = true →
        R (.bool false) w) ∧
      (true = false →
        impl_StepsOk_j0 l_p l_n w R)) ∧
    (true = false →
      (0 ≤ (0 : Int) ∧ (0 : Int) < (l_n : Nat)) ∧ ptrS l_p fun ad_2 => ∃ (t17 : Int), Loads P 3 ((ad_2.add (0 * 4)).add 0) (.int .i64 t17) w ∧ ((decide ((t17 : Int) ≠ 0)) = true →
        R (.bool false) w) ∧
      ((decide ((t17 : Int) ≠ 0)) = false →
        impl_StepsOk_j0 l_p l_n w R))) ∧
  ((decide ((((l_n : Nat) : Int) : Int) < 1)) = false →
    ((decide ((8 : Int) < ((l_n : Nat) : Int))) = true →
      (true = true →
        R (.bool false) w) ∧
      (true = false →
        impl_StepsOk_j0 l_p l_n w R)) ∧
    ((decide ((8 : Int) < ((l_n : Nat) : Int))) = false →
      (0 ≤ (0 : Int) ∧ (0 : Int) < (l_n : Nat)) ∧ ptrS l_p fun ad_3 => ∃ (t17_1 : Int), Loads P 3 ((ad_3.add (0 * 4)).add 0) (.int .i64 t17_1) w ∧ ((decide ((t17_1 : Int) ≠ 0)) = true →
        R (.bool false) w) ∧
      ((decide ((t17_1 : Int) ≠ 0)) = false →
        impl_StepsOk_j0 l_p l_n w R)))
theorem impl_StepsOk_eq (l_p : Option Addr) (l_n : Nat) (l_c : Nat) (w : World) (R : Value → World → Prop) : impl_StepsOk l_p l_n l_c w R = fsem P Try.f34 (fun k => cond (Nat.beq k 5) [(22, .one (.int .i64))] ([])) [(.slice l_p l_n l_c)] R w := by kernel_rfl
theorem impl_StepsOk_ret {l_p : Option Addr} {l_n : Nat} {l_c : Nat} {w : World} {R : Value → World → Prop} (h : impl_StepsOk l_p l_n l_c w R) : Ret P 34 [(.slice l_p l_n l_c)] w R :=
  Ret.of_fsem Try.func34 rfl (Eq.mp (impl_StepsOk_eq l_p l_n l_c w R) h)

def spec_StepAt_j0 (l_p : Option Addr) (l_n : Nat) (r : Nat) (W : World) (R : Value → World → Prop) : Prop :=
  ∃ t16 : Int, t16 = IntKind.wrap .i64 (((l_n : Nat) : Int) - 1) ∧ ∃ (Inv : Int → World → Prop) (mu : Int → World → Nat), Inv t16 W ∧
  ∀ (junk : Fr) (wv_2 : World) (k : Int), Inv k wv_2 →
    (0 ≤ (k : Int) ∧ (k : Int) < (l_n : Nat)) ∧ ptrS l_p fun ad => ∃ (t21 : Int), (∀ wv_3, Ext wv_2.drew wv_3 → Loads P 3 ((ad.add (k.toNat * 4)).add 0) (.int .i64 t21) wv_3) ∧ Calls P 64 ⟨[(.int .i64 t21)]⟩ wv_2.drew fun e_1 wv_4 =>
    ∃ (t220 : Bool) (t221_p : Option Addr) (t221_n : Nat) (t221_c : Nat), e_1 = .returned (.agg #[(.bool t220), (.slice t221_p t221_n t221_c)]) ∧
    Ext wv_2.drew wv_4 ∧ ∃ (t230 : Bool) (t231_p : Option Addr) (t231_n : Nat) (t231_c : Nat), (∀ wv_5, Ext wv_2.drew wv_5 → Loads P 26 ⟨r, 0, none⟩ (.agg #[(.bool t230), (.slice t231_p t231_n t231_c)]) wv_5) ∧ Calls P 75 ⟨[(.agg #[(.bool t230), (.slice t231_p t231_n t231_c)])]⟩ wv_4 fun e_2 wv_6 =>
    ∃ (t240 : Bool) (t241_p : Option Addr) (t241_n : Nat) (t241_c : Nat), e_2 = .returned (.agg #[(.bool t240), (.slice t241_p t241_n t241_c)]) ∧
    Calls P 74 ⟨[(.agg #[(.bool t220), (.slice t221_p t221_n t221_c)]), (.agg #[(.bool t240), (.slice t241_p t241_n t241_c)])]⟩ wv_6 fun e_3 wv_7 =>
    ∃ (t25 : Int), e_3 = .returned (.int .i64 t25) ∧
    ((decide ((0 : Int) < t25)) = true →
      ∃ t28 : Int, t28 = IntKind.wrap .i64 (k - 1) ∧ Inv t28 wv_7 ∧ mu t28 wv_7 < mu k wv_2) ∧
    ((decide ((0 : Int) < t25)) = false →
      R (.int .i64 k) wv_7)
def spec_StepAt (l_p : Option Addr) (l_n : Nat) (l_c : Nat) (units0 : Bool) (units1_p : Option Addr) (units1_n : Nat) (units1_c : Nat) (w : World) (R : Value → World → Prop) : Prop :=
  ∀ (r : Nat) (wv : World), New w (.cells ⟨[(.bool units0), (.slice units1_p units1_n units1_c)]⟩ 26 (0, 0)) r wv →
  Calls P 32 ⟨[(.slice l_p l_n l_c)]⟩ wv fun e wv_1 =>
  ∃ (t7 : Bool), e = .returned (.bool t7) ∧
  ((!t7) = true →
    (true = true →
      R (.int .i64 (-1)) wv_1) ∧
    (true = false →
      spec_StepAt_j0 l_p l_n r wv_1 R)) ∧
  ((!t7) = false →
    ∃ (t100 : Bool) (t101_p : Option Addr) (t101_n : Nat) (t101_c : Nat), Loads P 26 ⟨r, 0, none⟩ (.agg #[(.bool t100), (.slice t101_p t101_n t101_c)]) wv_1 ∧ Calls P 73 ⟨[(.agg #[(.bool t100), (.slice t101_p t101_n t101_c)])]⟩ wv_1 fun e_4 wv_8 =>
    ∃ (t11 : Bool), e_4 = .returned (.bool t11) ∧
    ((!t11) = true →
      R (.int .i64 (-1)) wv_8) ∧
    ((!t11) = false →
      spec_StepAt_j0 l_p l_n r wv_8 R))
theorem spec_StepAt_eq (l_p : Option Addr) (l_n : Nat) (l_c : Nat) (units0 : Bool) (units1_p : Option Addr) (units1_n : Nat) (units1_c : Nat) (w : World) (R : Value → World → Prop) : spec_StepAt l_p l_n l_c units0 units1_p units1_n units1_c w R = fsem P Try.f37 (fun k => cond (Nat.beq k 5) [(5, .one (.int .i64))] ([])) [(.slice l_p l_n l_c), (.agg #[(.bool units0), (.slice units1_p units1_n units1_c)])] R w := by kernel_rfl
theorem spec_StepAt_ret {l_p : Option Addr} {l_n : Nat} {l_c : Nat} {units0 : Bool} {units1_p : Option Addr} {units1_n : Nat} {units1_c : Nat} {w : World} {R : Value → World → Prop} (h : spec_StepAt l_p l_n l_c units0 units1_p units1_n units1_c w R) : Ret P 37 [(.slice l_p l_n l_c), (.agg #[(.bool units0), (.slice units1_p units1_n units1_c)])] w R :=
  Ret.of_fsem Try.func37 rfl (Eq.mp (spec_StepAt_eq l_p l_n l_c units0 units1_p units1_n units1_c w R) h)

def spec_l19Rat (r0 : Bool) (r1_p : Option Addr) (r1_n : Nat) (r1_c : Nat) (r2_p : Option Addr) (r2_n : Nat) (r2_c : Nat) (w : World) (R : Value → World → Prop) : Prop :=
  ∀ (r : Nat) (wv : World), New w (.cells ⟨[(.bool r0), (.slice r1_p r1_n r1_c), (.slice r2_p r2_n r2_c)]⟩ 28 (0, 0)) r wv →
  ∀ (r_1 : Nat) (wv_1 : World), New wv (.cells ⟨[(.bool false), (.slice none 0 0), (.slice none 0 0)]⟩ 28 (0, 0)) r_1 wv_1 →
  ∃ (t5 : Bool), (∀ wv_2, Ext wv_1.drew wv_2 → Loads P 4 (((⟨r, 0, none⟩ : Addr).add 0).add 0) (.bool t5) wv_2) ∧ ∃ (t9_p : Option Addr) (t9_n : Nat) (t9_c : Nat), (∀ wv_3, Ext wv_1.drew wv_3 → Loads P 24 (((⟨r, 0, none⟩ : Addr).add 0).add 1) (.slice t9_p t9_n t9_c) wv_3) ∧ ∀ (ss : List (Option Nat)) (wv_4 : World) (r_2 : Nat), Fl [.cells ⟨[]⟩ 3 (0, 0), .cells ⟨[]⟩ 3 (0, 0)] [none, none] wv_1.drew ss wv_4 → ss[0]? = some (some r_2) →
  ∀ (ss_1 : List (Option Nat)) (wv_5 : World), Fl [.cells ⟨[]⟩ 3 (0, 0), .cells ⟨[]⟩ 3 (0, 0)] ss wv_4 ss_1 wv_5 →
  ∃ (t10_p : Option Addr) (t10_n : Nat) (t10_c : Nat) (wv_6 : World), Appends P [24, 24] [(.slice (some ⟨r_2, 0, none⟩) 0 0), (.slice t9_p t9_n t9_c)] (.slice t10_p t10_n t10_c) wv_5 wv_6 ∧
  Ext wv_5 wv_6 ∧ ∃ (t14_p : Option Addr) (t14_n : Nat) (t14_c : Nat), (∀ wv_7, Ext wv_1.drew wv_7 → Loads P 24 ((⟨r, 0, none⟩ : Addr).add 2) (.slice t14_p t14_n t14_c) wv_7) ∧ ∀ (ss_2 : List (Option Nat)) (wv_8 : World) (r_3 : Nat), Fl [.cells ⟨[]⟩ 3 (0, 0), .cells ⟨[]⟩ 3 (0, 0)] ss_1 wv_6 ss_2 wv_8 → ss_2[1]? = some (some r_3) →
  ∃ (t15_p : Option Addr) (t15_n : Nat) (t15_c : Nat) (wv_9 : World), Appends P [24, 24] [(.slice (some ⟨r_3, 0, none⟩) 0 0), (.slice t14_p t14_n t14_c)] (.slice t15_p t15_n t15_c) wv_8 wv_9 ∧
  Ext wv_8 wv_9 ∧ ∃ wv_10, Stores P 28 ⟨r_1, 0, none⟩ (.agg #[(.bool t5), (.slice t10_p t10_n t10_c), (.slice t15_p t15_n t15_c)]) wv_9 wv_10 ∧
  ∃ (r0_1 : Bool) (r1_p_1 : Option Addr) (r1_n_1 : Nat) (r1_c_1 : Nat) (r2_p_1 : Option Addr) (r2_n_1 : Nat) (r2_c_1 : Nat), Loads P 28 ⟨r_1, 0, none⟩ (.agg #[(.bool r0_1), (.slice r1_p_1 r1_n_1 r1_c_1), (.slice r2_p_1 r2_n_1 r2_c_1)]) wv_10 ∧ R (.agg #[(.bool r0_1), (.slice r1_p_1 r1_n_1 r1_c_1), (.slice r2_p_1 r2_n_1 r2_c_1)]) wv_10
theorem spec_l19Rat_eq (r0 : Bool) (r1_p : Option Addr) (r1_n : Nat) (r1_c : Nat) (r2_p : Option Addr) (r2_n : Nat) (r2_c : Nat) (w : World) (R : Value → World → Prop) : spec_l19Rat r0 r1_p r1_n r1_c r2_p r2_n r2_c w R = fsem P Try.f42 (fun k => []) [(.agg #[(.bool r0), (.slice r1_p r1_n r1_c), (.slice r2_p r2_n r2_c)])] R w := by kernel_rfl
theorem spec_l19Rat_ret {r0 : Bool} {r1_p : Option Addr} {r1_n : Nat} {r1_c : Nat} {r2_p : Option Addr} {r2_n : Nat} {r2_c : Nat} {w : World} {R : Value → World → Prop} (h : spec_l19Rat r0 r1_p r1_n r1_c r2_p r2_n r2_c w R) : Ret P 42 [(.agg #[(.bool r0), (.slice r1_p r1_n r1_c), (.slice r2_p r2_n r2_c)])] w R :=
  Ret.of_fsem Try.func42 rfl (Eq.mp (spec_l19Rat_eq r0 r1_p r1_n r1_c r2_p r2_n r2_c w R) h)

def spec_RatZero (w : World) (R : Value → World → Prop) : Prop :=
  ∀ (r : Nat) (wv : World), New w (.cells ⟨[(.bool false), (.slice none 0 0), (.slice none 0 0)]⟩ 28 (0, 0)) r wv →
  ∀ (r_1 : Nat) (wv_1 : World), New wv (.cells ⟨[(.int .i64 1)]⟩ 3 (0, 0)) r_1 wv_1 →
  ∃ wv_2, Stores P 28 ⟨r, 0, none⟩ (.agg #[(.bool false), (.slice none 0 0), (.slice (some ⟨r_1, 0, none⟩) 1 1)]) wv_1 wv_2 ∧
  ∃ (r0 : Bool) (r1_p : Option Addr) (r1_n : Nat) (r1_c : Nat) (r2_p : Option Addr) (r2_n : Nat) (r2_c : Nat), Loads P 28 ⟨r, 0, none⟩ (.agg #[(.bool r0), (.slice r1_p r1_n r1_c), (.slice r2_p r2_n r2_c)]) wv_2 ∧ R (.agg #[(.bool r0), (.slice r1_p r1_n r1_c), (.slice r2_p r2_n r2_c)]) wv_2
theorem spec_RatZero_eq (w : World) (R : Value → World → Prop) : spec_RatZero w R = fsem P Try.f43 (fun k => []) [] R w := by kernel_rfl
theorem spec_RatZero_ret {w : World} {R : Value → World → Prop} (h : spec_RatZero w R) : Ret P 43 [] w R :=
  Ret.of_fsem Try.func43 rfl (Eq.mp (spec_RatZero_eq w R) h)

def impl_ratCopy (r0 : Bool) (r1_p : Option Addr) (r1_n : Nat) (r1_c : Nat) (r2_p : Option Addr) (r2_n : Nat) (r2_c : Nat) (w : World) (R : Value → World → Prop) : Prop :=
  ∀ (r : Nat) (wv : World), New w (.cells ⟨[(.bool r0), (.slice r1_p r1_n r1_c), (.slice r2_p r2_n r2_c)]⟩ 28 (0, 0)) r wv →
  ∀ (r_1 : Nat) (wv_1 : World), New wv (.cells ⟨[(.bool false), (.slice none 0 0), (.slice none 0 0)]⟩ 28 (0, 0)) r_1 wv_1 →
  ∃ (t40 : Bool) (t41_p : Option Addr) (t41_n : Nat) (t41_c : Nat), (∀ wv_2, Ext wv_1.drew wv_2 → Loads P 26 ((⟨r, 0, none⟩ : Addr).add 0) (.agg #[(.bool t40), (.slice t41_p t41_n t41_c)]) wv_2) ∧ Calls P 81 ⟨[(.agg #[(.bool t40), (.slice t41_p t41_n t41_c)])]⟩ wv_1.drew fun e wv_3 =>
  ∃ (t50 : Bool) (t51_p : Option Addr) (t51_n : Nat) (t51_c : Nat), e = .returned (.agg #[(.bool t50), (.slice t51_p t51_n t51_c)]) ∧
  Ext wv_1.drew wv_3 ∧ ∃ (t7_p : Option Addr) (t7_n : Nat) (t7_c : Nat), (∀ wv_4, Ext wv_1.drew wv_4 → Loads P 24 ((⟨r, 0, none⟩ : Addr).add 2) (.slice t7_p t7_n t7_c) wv_4) ∧ Calls P 82 ⟨[(.slice t7_p t7_n t7_c)]⟩ wv_3 fun e_1 wv_5 =>
  ∃ (t8_p : Option Addr) (t8_n : Nat) (t8_c : Nat), e_1 = .returned (.slice t8_p t8_n t8_c) ∧
  ∃ wv_6, Stores P 28 ⟨r_1, 0, none⟩ (.agg #[(.bool t50), (.slice t51_p t51_n t51_c), (.slice t8_p t8_n t8_c)]) wv_5 wv_6 ∧
  ∃ (r0_1 : Bool) (r1_p_1 : Option Addr) (r1_n_1 : Nat) (r1_c_1 : Nat) (r2_p_1 : Option Addr) (r2_n_1 : Nat) (r2_c_1 : Nat), Loads P 28 ⟨r_1, 0, none⟩ (.agg #[(.bool r0_1), (.slice r1_p_1 r1_n_1 r1_c_1), (.slice r2_p_1 r2_n_1 r2_c_1)]) wv_6 ∧ R (.agg #[(.bool r0_1), (.slice r1_p_1 r1_n_1 r1_c_1), (.slice r2_p_1 r2_n_1 r2_c_1)]) wv_6
theorem impl_ratCopy_eq (r0 : Bool) (r1_p : Option Addr) (r1_n : Nat) (r1_c : Nat) (r2_p : Option Addr) (r2_n : Nat) (r2_c : Nat) (w : World) (R : Value → World → Prop) : impl_ratCopy r0 r1_p r1_n r1_c r2_p r2_n r2_c w R = fsem P Try.f45 (fun k => []) [(.agg #[(.bool r0), (.slice r1_p r1_n r1_c), (.slice r2_p r2_n r2_c)])] R w := by kernel_rfl
theorem impl_ratCopy_ret {r0 : Bool} {r1_p : Option Addr} {r1_n : Nat} {r1_c : Nat} {r2_p : Option Addr} {r2_n : Nat} {r2_c : Nat} {w : World} {R : Value → World → Prop} (h : impl_ratCopy r0 r1_p r1_n r1_c r2_p r2_n r2_c w R) : Ret P 45 [(.agg #[(.bool r0), (.slice r1_p r1_n r1_c), (.slice r2_p r2_n r2_c)])] w R :=
  Ret.of_fsem Try.func45 rfl (Eq.mp (impl_ratCopy_eq r0 r1_p r1_n r1_c r2_p r2_n r2_c w R) h)

def impl_RatZero (w : World) (R : Value → World → Prop) : Prop :=
  ∀ (r : Nat) (wv : World), New w (.cells ⟨[(.bool false), (.slice none 0 0), (.slice none 0 0)]⟩ 28 (0, 0)) r wv →
  ∀ (r_1 : Nat) (wv_1 : World), New wv (.cells ⟨[(.int .i64 1)]⟩ 3 (0, 0)) r_1 wv_1 →
  ∃ wv_2, Stores P 28 ⟨r, 0, none⟩ (.agg #[(.bool false), (.slice none 0 0), (.slice (some ⟨r_1, 0, none⟩) 1 1)]) wv_1 wv_2 ∧
  ∃ (r0 : Bool) (r1_p : Option Addr) (r1_n : Nat) (r1_c : Nat) (r2_p : Option Addr) (r2_n : Nat) (r2_c : Nat), Loads P 28 ⟨r, 0, none⟩ (.agg #[(.bool r0), (.slice r1_p r1_n r1_c), (.slice r2_p r2_n r2_c)]) wv_2 ∧ R (.agg #[(.bool r0), (.slice r1_p r1_n r1_c), (.slice r2_p r2_n r2_c)]) wv_2
theorem impl_RatZero_eq (w : World) (R : Value → World → Prop) : impl_RatZero w R = fsem P Try.f46 (fun k => []) [] R w := by kernel_rfl
theorem impl_RatZero_ret {w : World} {R : Value → World → Prop} (h : impl_RatZero w R) : Ret P 46 [] w R :=
  Ret.of_fsem Try.func46 rfl (Eq.mp (impl_RatZero_eq w R) h)

def spec_AcctAt (b0_p : Option Addr) (b0_n : Nat) (b0_c : Nat) (name : ByteArray) (w : World) (R : Value → World → Prop) : Prop :=
  ∀ (r : Nat) (wv : World), New w (.cells ⟨[(.slice b0_p b0_n b0_c)]⟩ 47 (0, 0)) r wv →
  ∃ (t8_p : Option Addr) (t8_n : Nat) (t8_c : Nat), Loads P 45 ((⟨r, 0, none⟩ : Addr).add 0) (.slice t8_p t8_n t8_c) wv ∧ ∃ (Inv : Int → World → Prop) (mu : Int → World → Nat), Inv 0 wv ∧
  ∀ (junk : Fr) (wv_1 : World) (t10 : Int), Inv t10 wv_1 →
    ((decide ((t10 : Int) < ((t8_n : Nat) : Int))) = true →
      (0 ≤ (t10 : Int) ∧ (t10 : Int) < (t8_n : Nat)) ∧ ptrS t8_p fun ad => ∃ (t140 : ByteArray) (t141 : ByteArray) (t142 : Bool) (t143_p : Option Addr) (t143_n : Nat) (t143_c : Nat), Loads P 95 (ad.add (t10.toNat * 4)) (.agg #[(.string t140), (.string t141), (.bool t142), (.slice t143_p t143_n t143_c)]) wv_1 ∧ ∀ (r_1 : Nat) (wv_2 : World), New wv_1 (.cells ⟨[(.string ByteArray.empty), (.string ByteArray.empty), (.bool false), (.slice none 0 0)]⟩ 95 (0, 0)) r_1 wv_2 →
      ∃ wv_3, Stores P 95 ⟨r_1, 0, none⟩ (.agg #[(.string t140), (.string t141), (.bool t142), (.slice t143_p t143_n t143_c)]) wv_2 wv_3 ∧
      ∃ (t16 : ByteArray), Loads P 9 ((⟨r_1, 0, none⟩ : Addr).add 0) (.string t16) wv_3 ∧ ((decide (t16 = name)) = true →
        R (.int .i64 t10) wv_3) ∧
      ((decide (t16 = name)) = false →
        ∃ t20 : Int, t20 = IntKind.wrap .i64 (t10 + 1) ∧ Inv t20 wv_3 ∧ mu t20 wv_3 < mu t10 wv_1)) ∧
    ((decide ((t10 : Int) < ((t8_n : Nat) : Int))) = false →
      R (.int .i64 (-1)) wv_1)
theorem spec_AcctAt_eq (b0_p : Option Addr) (b0_n : Nat) (b0_c : Nat) (name : ByteArray) (w : World) (R : Value → World → Prop) : spec_AcctAt b0_p b0_n b0_c name w R = fsem P Try.f55 (fun k => cond (Nat.beq k 3) [(10, .one (.int .i64))] ([])) [(.agg #[(.slice b0_p b0_n b0_c)]), (.string name)] R w := by kernel_rfl
theorem spec_AcctAt_ret {b0_p : Option Addr} {b0_n : Nat} {b0_c : Nat} {name : ByteArray} {w : World} {R : Value → World → Prop} (h : spec_AcctAt b0_p b0_n b0_c name w R) : Ret P 55 [(.agg #[(.slice b0_p b0_n b0_c)]), (.string name)] w R :=
  Ret.of_fsem Try.func55 rfl (Eq.mp (spec_AcctAt_eq b0_p b0_n b0_c name w R) h)

def spec_l17Money (m0 : ByteArray) (m1 : Bool) (m2_p : Option Addr) (m2_n : Nat) (m2_c : Nat) (w : World) (R : Value → World → Prop) : Prop :=
  ∀ (r : Nat) (wv : World), New w (.cells ⟨[(.string m0), (.bool m1), (.slice m2_p m2_n m2_c)]⟩ 42 (0, 0)) r wv →
  ∀ (r_1 : Nat) (wv_1 : World), New wv (.cells ⟨[(.string ByteArray.empty), (.bool false), (.slice none 0 0)]⟩ 42 (0, 0)) r_1 wv_1 →
  ∃ (t4 : ByteArray), (∀ wv_2, Ext wv_1.drew wv_2 → Loads P 9 ((⟨r, 0, none⟩ : Addr).add 0) (.string t4) wv_2) ∧ ∃ (t7 : Bool), (∀ wv_3, Ext wv_1.drew wv_3 → Loads P 4 (((⟨r, 0, none⟩ : Addr).add 1).add 0) (.bool t7) wv_3) ∧ ∀ (r_2 : Nat) (wv_4 : World), New wv_1.drew (.cells ⟨[]⟩ 3 (0, 0)) r_2 wv_4 →
  Ext wv_1.drew wv_4 ∧ ∃ (t11_p : Option Addr) (t11_n : Nat) (t11_c : Nat), (∀ wv_5, Ext wv_1.drew wv_5 → Loads P 24 (((⟨r, 0, none⟩ : Addr).add 1).add 1) (.slice t11_p t11_n t11_c) wv_5) ∧ ∃ (t12_p : Option Addr) (t12_n : Nat) (t12_c : Nat) (wv_6 : World), Appends P [24, 24] [(.slice (some ⟨r_2, 0, none⟩) 0 0), (.slice t11_p t11_n t11_c)] (.slice t12_p t12_n t12_c) wv_4 wv_6 ∧
  Ext wv_4 wv_6 ∧ ∃ wv_7, Stores P 42 ⟨r_1, 0, none⟩ (.agg #[(.string t4), (.bool t7), (.slice t12_p t12_n t12_c)]) wv_6 wv_7 ∧
  ∃ (r0 : ByteArray) (r1 : Bool) (r2_p : Option Addr) (r2_n : Nat) (r2_c : Nat), Loads P 42 ⟨r_1, 0, none⟩ (.agg #[(.string r0), (.bool r1), (.slice r2_p r2_n r2_c)]) wv_7 ∧ R (.agg #[(.string r0), (.bool r1), (.slice r2_p r2_n r2_c)]) wv_7
theorem spec_l17Money_eq (m0 : ByteArray) (m1 : Bool) (m2_p : Option Addr) (m2_n : Nat) (m2_c : Nat) (w : World) (R : Value → World → Prop) : spec_l17Money m0 m1 m2_p m2_n m2_c w R = fsem P Try.f56 (fun k => []) [(.agg #[(.string m0), (.bool m1), (.slice m2_p m2_n m2_c)])] R w := by kernel_rfl
theorem spec_l17Money_ret {m0 : ByteArray} {m1 : Bool} {m2_p : Option Addr} {m2_n : Nat} {m2_c : Nat} {w : World} {R : Value → World → Prop} (h : spec_l17Money m0 m1 m2_p m2_n m2_c w R) : Ret P 56 [(.agg #[(.string m0), (.bool m1), (.slice m2_p m2_n m2_c)])] w R :=
  Ret.of_fsem Try.func56 rfl (Eq.mp (spec_l17Money_eq m0 m1 m2_p m2_n m2_c w R) h)

def impl_AcctAt (b0_p : Option Addr) (b0_n : Nat) (b0_c : Nat) (name : ByteArray) (w : World) (R : Value → World → Prop) : Prop :=
  ∀ (r : Nat) (wv : World), New w (.cells ⟨[(.slice b0_p b0_n b0_c)]⟩ 47 (0, 0)) r wv →
  ∀ (r_1 : Nat) (wv_1 : World), New wv (.cells ⟨[(.string name)]⟩ 9 (0, 0)) r_1 wv_1 →
  ∃ (t6_p : Option Addr) (t6_n : Nat) (t6_c : Nat), Loads P 45 ((⟨r, 0, none⟩ : Addr).add 0) (.slice t6_p t6_n t6_c) wv_1 ∧ Calls P 85 ⟨[(.slice t6_p t6_n t6_c), (.func (.func 86) #[] #[(.pointer (some ⟨r_1, 0, none⟩))])]⟩ wv_1 fun e wv_2 =>
  ∃ (t8 : Int), e = .returned (.int .i64 t8) ∧
  R (.int .i64 t8) wv_2
theorem impl_AcctAt_eq (b0_p : Option Addr) (b0_n : Nat) (b0_c : Nat) (name : ByteArray) (w : World) (R : Value → World → Prop) : impl_AcctAt b0_p b0_n b0_c name w R = fsem P Try.f58 (fun k => []) [(.agg #[(.slice b0_p b0_n b0_c)]), (.string name)] R w := by kernel_rfl
theorem impl_AcctAt_ret {b0_p : Option Addr} {b0_n : Nat} {b0_c : Nat} {name : ByteArray} {w : World} {R : Value → World → Prop} (h : impl_AcctAt b0_p b0_n b0_c name w R) : Ret P 58 [(.agg #[(.slice b0_p b0_n b0_c)]), (.string name)] w R :=
  Ret.of_fsem Try.func58 rfl (Eq.mp (impl_AcctAt_eq b0_p b0_n b0_c name w R) h)

def impl_moneyCopy (m0 : ByteArray) (m1 : Bool) (m2_p : Option Addr) (m2_n : Nat) (m2_c : Nat) (w : World) (R : Value → World → Prop) : Prop :=
  ∀ (r : Nat) (wv : World), New w (.cells ⟨[(.string m0), (.bool m1), (.slice m2_p m2_n m2_c)]⟩ 42 (0, 0)) r wv →
  ∀ (r_1 : Nat) (wv_1 : World), New wv (.cells ⟨[(.string ByteArray.empty), (.bool false), (.slice none 0 0)]⟩ 42 (0, 0)) r_1 wv_1 →
  ∃ (t6_p : Option Addr) (t6_n : Nat) (t6_c : Nat), Loads P 24 (((⟨r, 0, none⟩ : Addr).add 1).add 1) (.slice t6_p t6_n t6_c) wv_1 ∧ (0 ≤ (((t6_n : Nat) : Int) : Int) ∧ (((t6_n : Nat) : Int) : Int) ≤ ((t6_n : Nat) : Int) ∧ ((8 : Nat) : Int) * ((t6_n : Nat) : Int) ≤ 281474976710656) ∧
  ∀ (r_2 : Nat) (wv_2 : World), New wv_1 (.cells ⟨zeroRow (.int .i64 0) (t6_n * 1)⟩ 3 (0, 0)) r_2 wv_2 →
  ∃ (t12_p : Option Addr) (t12_n : Nat) (t12_c : Nat), Loads P 24 (((⟨r, 0, none⟩ : Addr).add 1).add 1) (.slice t12_p t12_n t12_c) wv_2 ∧ ∃ (t13 : Int) (wv_3 : World), Copies P [24, 24] [(.slice (some ⟨r_2, 0, none⟩) t6_n t6_n), (.slice t12_p t12_n t12_c)] (.int .i64 t13) wv_2 wv_3 ∧
  ∃ (t15 : ByteArray), (∀ wv_4, Ext wv_3.drew wv_4 → Loads P 9 ((⟨r, 0, none⟩ : Addr).add 0) (.string t15) wv_4) ∧ ∃ (t18 : Bool), (∀ wv_5, Ext wv_3.drew wv_5 → Loads P 4 (((⟨r, 0, none⟩ : Addr).add 1).add 0) (.bool t18) wv_5) ∧ (0 ≤ (((t6_n : Nat) : Int) : Int) ∧ (((t6_n : Nat) : Int) : Int) ≤ (t6_n : Nat)) ∧ (0 ≤ (((t6_n : Nat) : Int) : Int) ∧ (((t6_n : Nat) : Int) : Int) ≤ (t6_n : Nat)) ∧ ∃ wv_6, Stores P 42 ⟨r_1, 0, none⟩ (.agg #[(.string t15), (.bool t18), (.slice (sub (some ⟨r_2, 0, none⟩) 0 t6_n 1) (t6_n - 0) (t6_n - 0))]) wv_3.drew wv_6 ∧
  ∃ (r0 : ByteArray) (r1 : Bool) (r2_p : Option Addr) (r2_n : Nat) (r2_c : Nat), Loads P 42 ⟨r_1, 0, none⟩ (.agg #[(.string r0), (.bool r1), (.slice r2_p r2_n r2_c)]) wv_6 ∧ R (.agg #[(.string r0), (.bool r1), (.slice r2_p r2_n r2_c)]) wv_6
theorem impl_moneyCopy_eq (m0 : ByteArray) (m1 : Bool) (m2_p : Option Addr) (m2_n : Nat) (m2_c : Nat) (w : World) (R : Value → World → Prop) : impl_moneyCopy m0 m1 m2_p m2_n m2_c w R = fsem P Try.f59 (fun k => []) [(.agg #[(.string m0), (.bool m1), (.slice m2_p m2_n m2_c)])] R w := by kernel_rfl
theorem impl_moneyCopy_ret {m0 : ByteArray} {m1 : Bool} {m2_p : Option Addr} {m2_n : Nat} {m2_c : Nat} {w : World} {R : Value → World → Prop} (h : impl_moneyCopy m0 m1 m2_p m2_n m2_c w R) : Ret P 59 [(.agg #[(.string m0), (.bool m1), (.slice m2_p m2_n m2_c)])] w R :=
  Ret.of_fsem Try.func59 rfl (Eq.mp (impl_moneyCopy_eq m0 m1 m2_p m2_n m2_c w R) h)

def spec_DecOk (d0 : Bool) (d1_p : Option Addr) (d1_n : Nat) (d1_c : Nat) (d2 : Int) (w : World) (R : Value → World → Prop) : Prop :=
  ∀ (r : Nat) (wv : World), New w (.cells ⟨[(.bool d0), (.slice d1_p d1_n d1_c), (.int .i64 d2)]⟩ 60 (0, 0)) r wv →
  ∃ (t40 : Bool) (t41_p : Option Addr) (t41_n : Nat) (t41_c : Nat), Loads P 26 ((⟨r, 0, none⟩ : Addr).add 0) (.agg #[(.bool t40), (.slice t41_p t41_n t41_c)]) wv ∧ Calls P 73 ⟨[(.agg #[(.bool t40), (.slice t41_p t41_n t41_c)])]⟩ wv fun e wv_1 =>
  ∃ (t5 : Bool), e = .returned (.bool t5) ∧
  (t5 = true →
    ∃ (t9_p : Option Addr) (t9_n : Nat) (t9_c : Nat), Loads P 24 (((⟨r, 0, none⟩ : Addr).add 0).add 1) (.slice t9_p t9_n t9_c) wv_1 ∧ ((decide ((((t9_n : Nat) : Int) : Int) ≤ 6)) = true →
      ∃ (t15 : Int), Loads P 3 ((⟨r, 0, none⟩ : Addr).add 2) (.int .i64 t15) wv_1 ∧ Calls P 69 ⟨[(.int .i64 t15), (.int .i64 0), (.int .i64 30)]⟩ wv_1 fun e_1 wv_2 =>
      ∃ (t16 : Bool), e_1 = .returned (.bool t16) ∧
      R (.bool t16) wv_2) ∧
    ((decide ((((t9_n : Nat) : Int) : Int) ≤ 6)) = false →
      R (.bool false) wv_1)) ∧
  (t5 = false →
    (false = true →
      ∃ (t15_1 : Int), Loads P 3 ((⟨r, 0, none⟩ : Addr).add 2) (.int .i64 t15_1) wv_1 ∧ Calls P 69 ⟨[(.int .i64 t15_1), (.int .i64 0), (.int .i64 30)]⟩ wv_1 fun e_2 wv_3 =>
      ∃ (t16_1 : Bool), e_2 = .returned (.bool t16_1) ∧
      R (.bool t16_1) wv_3) ∧
    (false = false →
      R (.bool false) wv_1))
theorem spec_DecOk_eq (d0 : Bool) (d1_p : Option Addr) (d1_n : Nat) (d1_c : Nat) (d2 : Int) (w : World) (R : Value → World → Prop) : spec_DecOk d0 d1_p d1_n d1_c d2 w R = fsem P Try.f62 (fun k => []) [(.agg #[(.bool d0), (.slice d1_p d1_n d1_c), (.int .i64 d2)])] R w := by kernel_rfl
theorem spec_DecOk_ret {d0 : Bool} {d1_p : Option Addr} {d1_n : Nat} {d1_c : Nat} {d2 : Int} {w : World} {R : Value → World → Prop} (h : spec_DecOk d0 d1_p d1_n d1_c d2 w R) : Ret P 62 [(.agg #[(.bool d0), (.slice d1_p d1_n d1_c), (.int .i64 d2)])] w R :=
  Ret.of_fsem Try.func62 rfl (Eq.mp (spec_DecOk_eq d0 d1_p d1_n d1_c d2 w R) h)

def spec_DecCmp_j0 (r : Nat) (r_1 : Nat) (W : World) (R : Value → World → Prop) : Prop :=
  ∃ (t170 : Bool) (t171_p : Option Addr) (t171_n : Nat) (t171_c : Nat) (t172 : Int), Loads P 60 ⟨r, 0, none⟩ (.agg #[(.bool t170), (.slice t171_p t171_n t171_c), (.int .i64 t172)]) W ∧ ∃ (t180 : Bool) (t181_p : Option Addr) (t181_n : Nat) (t181_c : Nat) (t182 : Int), Loads P 60 ⟨r_1, 0, none⟩ (.agg #[(.bool t180), (.slice t181_p t181_n t181_c), (.int .i64 t182)]) W ∧ Calls P 88 ⟨[(.agg #[(.bool t170), (.slice t171_p t171_n t171_c), (.int .i64 t172)]), (.agg #[(.bool t180), (.slice t181_p t181_n t181_c), (.int .i64 t182)])]⟩ W fun e_1 wv_3 =>
  ∃ (t190 : Bool) (t191_p : Option Addr) (t191_n : Nat) (t191_c : Nat) (t190_1 : Bool) (t191_p_1 : Option Addr) (t191_n_1 : Nat) (t191_c_1 : Nat) (t19 : Int), e_1 = .returned (.tuple #[(.agg #[(.bool t190), (.slice t191_p t191_n t191_c)]), (.agg #[(.bool t190_1), (.slice t191_p_1 t191_n_1 t191_c_1)]), (.int .i64 t19)]) ∧
  ∀ (r_2 : Nat) (wv_4 : World), New wv_3 (.cells ⟨[(.bool false), (.slice none 0 0)]⟩ 26 (0, 0)) r_2 wv_4 →
  ∀ (r_3 : Nat) (wv_5 : World), New wv_4 (.cells ⟨[(.bool false), (.slice none 0 0)]⟩ 26 (0, 0)) r_3 wv_5 →
  ∃ wv_6, Stores P 26 ⟨r_2, 0, none⟩ (.agg #[(.bool t190), (.slice t191_p t191_n t191_c)]) wv_5 wv_6 ∧
  ∃ wv_7, Stores P 26 ⟨r_3, 0, none⟩ (.agg #[(.bool t190_1), (.slice t191_p_1 t191_n_1 t191_c_1)]) wv_6 wv_7 ∧
  ∃ (t230 : Bool) (t231_p : Option Addr) (t231_n : Nat) (t231_c : Nat), Loads P 26 ⟨r_2, 0, none⟩ (.agg #[(.bool t230), (.slice t231_p t231_n t231_c)]) wv_7 ∧ ∃ (t240 : Bool) (t241_p : Option Addr) (t241_n : Nat) (t241_c : Nat), Loads P 26 ⟨r_3, 0, none⟩ (.agg #[(.bool t240), (.slice t241_p t241_n t241_c)]) wv_7 ∧ Calls P 74 ⟨[(.agg #[(.bool t230), (.slice t231_p t231_n t231_c)]), (.agg #[(.bool t240), (.slice t241_p t241_n t241_c)])]⟩ wv_7 fun e_2 wv_8 =>
  ∃ (t25 : Int), e_2 = .returned (.int .i64 t25) ∧
  R (.int .i64 t25) wv_8
def spec_DecCmp (d0 : Bool) (d1_p : Option Addr) (d1_n : Nat) (d1_c : Nat) (d2 : Int) (e0 : Bool) (e1_p : Option Addr) (e1_n : Nat) (e1_c : Nat) (e2 : Int) (w : World) (R : Value → World → Prop) : Prop :=
  ∀ (r : Nat) (wv : World), New w (.cells ⟨[(.bool d0), (.slice d1_p d1_n d1_c), (.int .i64 d2)]⟩ 60 (0, 0)) r wv →
  ∀ (r_1 : Nat) (wv_1 : World), New wv (.cells ⟨[(.bool e0), (.slice e1_p e1_n e1_c), (.int .i64 e2)]⟩ 60 (0, 0)) r_1 wv_1 →
  ∃ (t80 : Bool) (t81_p : Option Addr) (t81_n : Nat) (t81_c : Nat) (t82 : Int), Loads P 60 ⟨r, 0, none⟩ (.agg #[(.bool t80), (.slice t81_p t81_n t81_c), (.int .i64 t82)]) wv_1 ∧ Calls P 62 ⟨[(.agg #[(.bool t80), (.slice t81_p t81_n t81_c), (.int .i64 t82)])]⟩ wv_1 fun e wv_2 =>
  ∃ (t9 : Bool), e = .returned (.bool t9) ∧
  ((!t9) = true →
    (true = true →
      R (.int .i64 0) wv_2) ∧
    (true = false →
      spec_DecCmp_j0 r r_1 wv_2 R)) ∧
  ((!t9) = false →
    ∃ (t120 : Bool) (t121_p : Option Addr) (t121_n : Nat) (t121_c : Nat) (t122 : Int), Loads P 60 ⟨r_1, 0, none⟩ (.agg #[(.bool t120), (.slice t121_p t121_n t121_c), (.int .i64 t122)]) wv_2 ∧ Calls P 62 ⟨[(.agg #[(.bool t120), (.slice t121_p t121_n t121_c), (.int .i64 t122)])]⟩ wv_2 fun e_3 wv_9 =>
    ∃ (t13 : Bool), e_3 = .returned (.bool t13) ∧
    ((!t13) = true →
      R (.int .i64 0) wv_9) ∧
    ((!t13) = false →
      spec_DecCmp_j0 r r_1 wv_9 R))
theorem spec_DecCmp_eq (d0 : Bool) (d1_p : Option Addr) (d1_n : Nat) (d1_c : Nat) (d2 : Int) (e0 : Bool) (e1_p : Option Addr) (e1_n : Nat) (e1_c : Nat) (e2 : Int) (w : World) (R : Value → World → Prop) : spec_DecCmp d0 d1_p d1_n d1_c d2 e0 e1_p e1_n e1_c e2 w R = fsem P Try.f63 (fun k => []) [(.agg #[(.bool d0), (.slice d1_p d1_n d1_c), (.int .i64 d2)]), (.agg #[(.bool e0), (.slice e1_p e1_n e1_c), (.int .i64 e2)])] R w := by kernel_rfl
theorem spec_DecCmp_ret {d0 : Bool} {d1_p : Option Addr} {d1_n : Nat} {d1_c : Nat} {d2 : Int} {e0 : Bool} {e1_p : Option Addr} {e1_n : Nat} {e1_c : Nat} {e2 : Int} {w : World} {R : Value → World → Prop} (h : spec_DecCmp d0 d1_p d1_n d1_c d2 e0 e1_p e1_n e1_c e2 w R) : Ret P 63 [(.agg #[(.bool d0), (.slice d1_p d1_n d1_c), (.int .i64 d2)]), (.agg #[(.bool e0), (.slice e1_p e1_n e1_c), (.int .i64 e2)])] w R :=
  Ret.of_fsem Try.func63 rfl (Eq.mp (spec_DecCmp_eq d0 d1_p d1_n d1_c d2 e0 e1_p e1_n e1_c e2 w R) h)

def spec_IntOf (n : Int) (w : World) (R : Value → World → Prop) : Prop :=
  ∀ (r : Nat) (wv : World), New w (.cells ⟨[(.bool false), (.slice none 0 0)]⟩ 26 (0, 0)) r wv →
  ((decide ((n : Int) = (-9223372036854775808))) = true →
    ∀ (r_1 : Nat) (wv_1 : World), New wv (.cells ⟨[(.int .i64 854775808), (.int .i64 223372036), (.int .i64 9)]⟩ 3 (0, 0)) r_1 wv_1 →
    Calls P 89 ⟨[(.bool true), (.slice (some ⟨r_1, 0, none⟩) 3 3)]⟩ wv_1 fun e wv_2 =>
    ∃ (t60 : Bool) (t61_p : Option Addr) (t61_n : Nat) (t61_c : Nat), e = .returned (.agg #[(.bool t60), (.slice t61_p t61_n t61_c)]) ∧
    ∃ wv_3, Stores P 26 ⟨r, 0, none⟩ (.agg #[(.bool t60), (.slice t61_p t61_n t61_c)]) wv_2 wv_3 ∧
    ∃ (r0 : Bool) (r1_p : Option Addr) (r1_n : Nat) (r1_c : Nat), Loads P 26 ⟨r, 0, none⟩ (.agg #[(.bool r0), (.slice r1_p r1_n r1_c)]) wv_3 ∧ R (.agg #[(.bool r0), (.slice r1_p r1_n r1_c)]) wv_3) ∧
  ((decide ((n : Int) = (-9223372036854775808))) = false →
    ((decide ((n : Int) < 0)) = true →
      ∃ t10 : Int, t10 = IntKind.wrap .i64 (0 - n) ∧ Calls P 90 ⟨[(.int .i64 t10)]⟩ wv fun e_1 wv_4 =>
      ∃ (t11_p : Option Addr) (t11_n : Nat) (t11_c : Nat), e_1 = .returned (.slice t11_p t11_n t11_c) ∧
      Calls P 89 ⟨[(.bool true), (.slice t11_p t11_n t11_c)]⟩ wv_4 fun e_2 wv_5 =>
      ∃ (t120 : Bool) (t121_p : Option Addr) (t121_n : Nat) (t121_c : Nat), e_2 = .returned (.agg #[(.bool t120), (.slice t121_p t121_n t121_c)]) ∧
      ∃ wv_6, Stores P 26 ⟨r, 0, none⟩ (.agg #[(.bool t120), (.slice t121_p t121_n t121_c)]) wv_5 wv_6 ∧
      ∃ (r0_1 : Bool) (r1_p_1 : Option Addr) (r1_n_1 : Nat) (r1_c_1 : Nat), Loads P 26 ⟨r, 0, none⟩ (.agg #[(.bool r0_1), (.slice r1_p_1 r1_n_1 r1_c_1)]) wv_6 ∧ R (.agg #[(.bool r0_1), (.slice r1_p_1 r1_n_1 r1_c_1)]) wv_6) ∧
    ((decide ((n : Int) < 0)) = false →
      Calls P 90 ⟨[(.int .i64 n)]⟩ wv fun e_3 wv_7 =>
      ∃ (t14_p : Option Addr) (t14_n : Nat) (t14_c : Nat), e_3 = .returned (.slice t14_p t14_n t14_c) ∧
      Calls P 89 ⟨[(.bool false), (.slice t14_p t14_n t14_c)]⟩ wv_7 fun e_4 wv_8 =>
      ∃ (t150 : Bool) (t151_p : Option Addr) (t151_n : Nat) (t151_c : Nat), e_4 = .returned (.agg #[(.bool t150), (.slice t151_p t151_n t151_c)]) ∧
      ∃ wv_9, Stores P 26 ⟨r, 0, none⟩ (.agg #[(.bool t150), (.slice t151_p t151_n t151_c)]) wv_8 wv_9 ∧
      ∃ (r0_2 : Bool) (r1_p_2 : Option Addr) (r1_n_2 : Nat) (r1_c_2 : Nat), Loads P 26 ⟨r, 0, none⟩ (.agg #[(.bool r0_2), (.slice r1_p_2 r1_n_2 r1_c_2)]) wv_9 ∧ R (.agg #[(.bool r0_2), (.slice r1_p_2 r1_n_2 r1_c_2)]) wv_9))
theorem spec_IntOf_eq (n : Int) (w : World) (R : Value → World → Prop) : spec_IntOf n w R = fsem P Try.f64 (fun k => []) [(.int .i64 n)] R w := by kernel_rfl
theorem spec_IntOf_ret {n : Int} {w : World} {R : Value → World → Prop} (h : spec_IntOf n w R) : Ret P 64 [(.int .i64 n)] w R :=
  Ret.of_fsem Try.func64 rfl (Eq.mp (spec_IntOf_eq n w R) h)

def impl_DecOk (d0 : Bool) (d1_p : Option Addr) (d1_n : Nat) (d1_c : Nat) (d2 : Int) (w : World) (R : Value → World → Prop) : Prop :=
  ∀ (r : Nat) (wv : World), New w (.cells ⟨[(.bool d0), (.slice d1_p d1_n d1_c), (.int .i64 d2)]⟩ 60 (0, 0)) r wv →
  ∃ (t40 : Bool) (t41_p : Option Addr) (t41_n : Nat) (t41_c : Nat), Loads P 26 ((⟨r, 0, none⟩ : Addr).add 0) (.agg #[(.bool t40), (.slice t41_p t41_n t41_c)]) wv ∧ Calls P 77 ⟨[(.agg #[(.bool t40), (.slice t41_p t41_n t41_c)])]⟩ wv fun e wv_1 =>
  ∃ (t5 : Bool), e = .returned (.bool t5) ∧
  (t5 = true →
    ∃ (t9_p : Option Addr) (t9_n : Nat) (t9_c : Nat), Loads P 24 (((⟨r, 0, none⟩ : Addr).add 0).add 1) (.slice t9_p t9_n t9_c) wv_1 ∧ ((decide ((((t9_n : Nat) : Int) : Int) ≤ 6)) = true →
      ∃ (t15 : Int), Loads P 3 ((⟨r, 0, none⟩ : Addr).add 2) (.int .i64 t15) wv_1 ∧ Calls P 91 ⟨[(.int .i64 t15)]⟩ wv_1 fun e_1 wv_2 =>
      ∃ (t16 : Bool), e_1 = .returned (.bool t16) ∧
      R (.bool t16) wv_2) ∧
    ((decide ((((t9_n : Nat) : Int) : Int) ≤ 6)) = false →
      R (.bool false) wv_1)) ∧
  (t5 = false →
    (false = true →
      ∃ (t15_1 : Int), Loads P 3 ((⟨r, 0, none⟩ : Addr).add 2) (.int .i64 t15_1) wv_1 ∧ Calls P 91 ⟨[(.int .i64 t15_1)]⟩ wv_1 fun e_2 wv_3 =>
      ∃ (t16_1 : Bool), e_2 = .returned (.bool t16_1) ∧
      R (.bool t16_1) wv_3) ∧
    (false = false →
      R (.bool false) wv_1))
theorem impl_DecOk_eq (d0 : Bool) (d1_p : Option Addr) (d1_n : Nat) (d1_c : Nat) (d2 : Int) (w : World) (R : Value → World → Prop) : impl_DecOk d0 d1_p d1_n d1_c d2 w R = fsem P Try.f65 (fun k => []) [(.agg #[(.bool d0), (.slice d1_p d1_n d1_c), (.int .i64 d2)])] R w := by kernel_rfl
theorem impl_DecOk_ret {d0 : Bool} {d1_p : Option Addr} {d1_n : Nat} {d1_c : Nat} {d2 : Int} {w : World} {R : Value → World → Prop} (h : impl_DecOk d0 d1_p d1_n d1_c d2 w R) : Ret P 65 [(.agg #[(.bool d0), (.slice d1_p d1_n d1_c), (.int .i64 d2)])] w R :=
  Ret.of_fsem Try.func65 rfl (Eq.mp (impl_DecOk_eq d0 d1_p d1_n d1_c d2 w R) h)

def impl_DecCmp_j0 (r : Nat) (r_1 : Nat) (W : World) (R : Value → World → Prop) : Prop :=
  ∃ (t15 : Int), Loads P 3 ((⟨r, 0, none⟩ : Addr).add 2) (.int .i64 t15) W ∧ ∃ (t17 : Int), Loads P 3 ((⟨r_1, 0, none⟩ : Addr).add 2) (.int .i64 t17) W ∧ ∃ t18 : Int, t18 = (if t17 > t15 then t17 else t15) ∧ Calls P 92 ⟨[(.int .i64 t18)]⟩ W fun e_1 wv_3 =>
  ∃ (t19 : Value), e_1 = .returned t19 ∧
  ∃ (t210 : Bool) (t211_p : Option Addr) (t211_n : Nat) (t211_c : Nat) (t212 : Int), (∀ wv_4, Ext wv_3.drew wv_4 → Loads P 60 ⟨r, 0, none⟩ (.agg #[(.bool t210), (.slice t211_p t211_n t211_c), (.int .i64 t212)]) wv_4) ∧ CallW P t19 [(.agg #[(.bool t210), (.slice t211_p t211_n t211_c), (.int .i64 t212)])] wv_3.drew fun e_2 wv_5 =>
  ∃ (t220 : Bool) (t221_p : Option Addr) (t221_n : Nat) (t221_c : Nat), e_2 = .returned (.agg #[(.bool t220), (.slice t221_p t221_n t221_c)]) ∧
  Ext wv_3.drew wv_5 ∧ ∃ (t240 : Bool) (t241_p : Option Addr) (t241_n : Nat) (t241_c : Nat) (t242 : Int), (∀ wv_6, Ext wv_3.drew wv_6 → Loads P 60 ⟨r_1, 0, none⟩ (.agg #[(.bool t240), (.slice t241_p t241_n t241_c), (.int .i64 t242)]) wv_6) ∧ CallW P t19 [(.agg #[(.bool t240), (.slice t241_p t241_n t241_c), (.int .i64 t242)])] wv_5 fun e_3 wv_7 =>
  ∃ (t250 : Bool) (t251_p : Option Addr) (t251_n : Nat) (t251_c : Nat), e_3 = .returned (.agg #[(.bool t250), (.slice t251_p t251_n t251_c)]) ∧
  Calls P 93 ⟨[(.agg #[(.bool t220), (.slice t221_p t221_n t221_c)]), (.agg #[(.bool t250), (.slice t251_p t251_n t251_c)])]⟩ wv_7 fun e_4 wv_8 =>
  ∃ (t26 : Int), e_4 = .returned (.int .i64 t26) ∧
  R (.int .i64 t26) wv_8
def impl_DecCmp (d0 : Bool) (d1_p : Option Addr) (d1_n : Nat) (d1_c : Nat) (d2 : Int) (e0 : Bool) (e1_p : Option Addr) (e1_n : Nat) (e1_c : Nat) (e2 : Int) (w : World) (R : Value → World → Prop) : Prop :=
  ∀ (r : Nat) (wv : World), New w (.cells ⟨[(.bool d0), (.slice d1_p d1_n d1_c), (.int .i64 d2)]⟩ 60 (0, 0)) r wv →
  ∀ (r_1 : Nat) (wv_1 : World), New wv (.cells ⟨[(.bool e0), (.slice e1_p e1_n e1_c), (.int .i64 e2)]⟩ 60 (0, 0)) r_1 wv_1 →
  ∃ (t60 : Bool) (t61_p : Option Addr) (t61_n : Nat) (t61_c : Nat) (t62 : Int), Loads P 60 ⟨r, 0, none⟩ (.agg #[(.bool t60), (.slice t61_p t61_n t61_c), (.int .i64 t62)]) wv_1 ∧ Calls P 65 ⟨[(.agg #[(.bool t60), (.slice t61_p t61_n t61_c), (.int .i64 t62)])]⟩ wv_1 fun e wv_2 =>
  ∃ (t7 : Bool), e = .returned (.bool t7) ∧
  ((!t7) = true →
    (true = true →
      R (.int .i64 0) wv_2) ∧
    (true = false →
      impl_DecCmp_j0 r r_1 wv_2 R)) ∧
  ((!t7) = false →
    ∃ (t100 : Bool) (t101_p : Option Addr) (t101_n : Nat) (t101_c : Nat) (t102 : Int), Loads P 60 ⟨r_1, 0, none⟩ (.agg #[(.bool t100), (.slice t101_p t101_n t101_c), (.int .i64 t102)]) wv_2 ∧ Calls P 65 ⟨[(.agg #[(.bool t100), (.slice t101_p t101_n t101_c), (.int .i64 t102)])]⟩ wv_2 fun e_5 wv_9 =>
    ∃ (t11 : Bool), e_5 = .returned (.bool t11) ∧
    ((!t11) = true →
      R (.int .i64 0) wv_9) ∧
    ((!t11) = false →
      impl_DecCmp_j0 r r_1 wv_9 R))
theorem impl_DecCmp_eq (d0 : Bool) (d1_p : Option Addr) (d1_n : Nat) (d1_c : Nat) (d2 : Int) (e0 : Bool) (e1_p : Option Addr) (e1_n : Nat) (e1_c : Nat) (e2 : Int) (w : World) (R : Value → World → Prop) : impl_DecCmp d0 d1_p d1_n d1_c d2 e0 e1_p e1_n e1_c e2 w R = fsem P Try.f66 (fun k => []) [(.agg #[(.bool d0), (.slice d1_p d1_n d1_c), (.int .i64 d2)]), (.agg #[(.bool e0), (.slice e1_p e1_n e1_c), (.int .i64 e2)])] R w := by kernel_rfl
theorem impl_DecCmp_ret {d0 : Bool} {d1_p : Option Addr} {d1_n : Nat} {d1_c : Nat} {d2 : Int} {e0 : Bool} {e1_p : Option Addr} {e1_n : Nat} {e1_c : Nat} {e2 : Int} {w : World} {R : Value → World → Prop} (h : impl_DecCmp d0 d1_p d1_n d1_c d2 e0 e1_p e1_n e1_c e2 w R) : Ret P 66 [(.agg #[(.bool d0), (.slice d1_p d1_n d1_c), (.int .i64 d2)]), (.agg #[(.bool e0), (.slice e1_p e1_n e1_c), (.int .i64 e2)])] w R :=
  Ret.of_fsem Try.func66 rfl (Eq.mp (impl_DecCmp_eq d0 d1_p d1_n d1_c d2 e0 e1_p e1_n e1_c e2 w R) h)

def impl_IntOf (n : Int) (w : World) (R : Value → World → Prop) : Prop :=
  ∀ (r : Nat) (wv : World), New w (.cells ⟨[(.bool false), (.slice none 0 0)]⟩ 26 (0, 0)) r wv →
  ((decide ((n : Int) < 0)) = true →
    ∃ t6 : Int, t6 = IntKind.wrap .u64 n ∧ ∃ t7 : Int, t7 = IntKind.wrap .u64 (0 - t6) ∧ Calls P 94 ⟨[(.int .u64 t7)]⟩ wv fun e wv_1 =>
    ∃ (t8_p : Option Addr) (t8_n : Nat) (t8_c : Nat), e = .returned (.slice t8_p t8_n t8_c) ∧
    ∃ wv_2, Stores P 26 ⟨r, 0, none⟩ (.agg #[(.bool true), (.slice t8_p t8_n t8_c)]) wv_1 wv_2 ∧
    ∃ (r0 : Bool) (r1_p : Option Addr) (r1_n : Nat) (r1_c : Nat), Loads P 26 ⟨r, 0, none⟩ (.agg #[(.bool r0), (.slice r1_p r1_n r1_c)]) wv_2 ∧ R (.agg #[(.bool r0), (.slice r1_p r1_n r1_c)]) wv_2) ∧
  ((decide ((n : Int) < 0)) = false →
    ∃ t11 : Int, t11 = IntKind.wrap .u64 n ∧ Calls P 94 ⟨[(.int .u64 t11)]⟩ wv fun e_1 wv_3 =>
    ∃ (t12_p : Option Addr) (t12_n : Nat) (t12_c : Nat), e_1 = .returned (.slice t12_p t12_n t12_c) ∧
    ∃ wv_4, Stores P 26 ⟨r, 0, none⟩ (.agg #[(.bool false), (.slice t12_p t12_n t12_c)]) wv_3 wv_4 ∧
    ∃ (r0_1 : Bool) (r1_p_1 : Option Addr) (r1_n_1 : Nat) (r1_c_1 : Nat), Loads P 26 ⟨r, 0, none⟩ (.agg #[(.bool r0_1), (.slice r1_p_1 r1_n_1 r1_c_1)]) wv_4 ∧ R (.agg #[(.bool r0_1), (.slice r1_p_1 r1_n_1 r1_c_1)]) wv_4)
theorem impl_IntOf_eq (n : Int) (w : World) (R : Value → World → Prop) : impl_IntOf n w R = fsem P Try.f67 (fun k => []) [(.int .i64 n)] R w := by kernel_rfl
theorem impl_IntOf_ret {n : Int} {w : World} {R : Value → World → Prop} (h : impl_IntOf n w R) : Ret P 67 [(.int .i64 n)] w R :=
  Ret.of_fsem Try.func67 rfl (Eq.mp (impl_IntOf_eq n w R) h)

def spec_l01In (n : Int) (lo : Int) (hi : Int) (w : World) (R : Value → World → Prop) : Prop :=
  ((decide ((lo : Int) ≤ n)) = true →
    R (.bool (decide ((n : Int) ≤ hi))) w) ∧
  ((decide ((lo : Int) ≤ n)) = false →
    R (.bool false) w)
theorem spec_l01In_eq (n : Int) (lo : Int) (hi : Int) (w : World) (R : Value → World → Prop) : spec_l01In n lo hi w R = fsem P Try.f69 (fun k => []) [(.int .i64 n), (.int .i64 lo), (.int .i64 hi)] R w := by kernel_rfl
theorem spec_l01In_ret {n : Int} {lo : Int} {hi : Int} {w : World} {R : Value → World → Prop} (h : spec_l01In n lo hi w R) : Ret P 69 [(.int .i64 n), (.int .i64 lo), (.int .i64 hi)] w R :=
  Ret.of_fsem Try.func69 rfl (Eq.mp (spec_l01In_eq n lo hi w R) h)

def spec_IntOk (x0 : Bool) (x1_p : Option Addr) (x1_n : Nat) (x1_c : Nat) (w : World) (R : Value → World → Prop) : Prop :=
  ∀ (r : Nat) (wv : World), New w (.cells ⟨[(.bool x0), (.slice x1_p x1_n x1_c)]⟩ 26 (0, 0)) r wv →
  ∃ (t4_p : Option Addr) (t4_n : Nat) (t4_c : Nat), Loads P 24 ((⟨r, 0, none⟩ : Addr).add 1) (.slice t4_p t4_n t4_c) wv ∧ Calls P 95 ⟨[(.slice t4_p t4_n t4_c)]⟩ wv fun e wv_1 =>
  ∃ (t5 : Bool), e = .returned (.bool t5) ∧
  (t5 = true →
    ∃ (t8 : Bool), Loads P 4 ((⟨r, 0, none⟩ : Addr).add 0) (.bool t8) wv_1 ∧ ((!t8) = true →
      R (.bool true) wv_1) ∧
    ((!t8) = false →
      ∃ (t12_p : Option Addr) (t12_n : Nat) (t12_c : Nat), Loads P 24 ((⟨r, 0, none⟩ : Addr).add 1) (.slice t12_p t12_n t12_c) wv_1 ∧ R (.bool (decide ((0 : Int) < ((t12_n : Nat) : Int)))) wv_1)) ∧
  (t5 = false →
    R (.bool false) wv_1)
theorem spec_IntOk_eq (x0 : Bool) (x1_p : Option Addr) (x1_n : Nat) (x1_c : Nat) (w : World) (R : Value → World → Prop) : spec_IntOk x0 x1_p x1_n x1_c w R = fsem P Try.f73 (fun k => []) [(.agg #[(.bool x0), (.slice x1_p x1_n x1_c)])] R w := by kernel_rfl
theorem spec_IntOk_ret {x0 : Bool} {x1_p : Option Addr} {x1_n : Nat} {x1_c : Nat} {w : World} {R : Value → World → Prop} (h : spec_IntOk x0 x1_p x1_n x1_c w R) : Ret P 73 [(.agg #[(.bool x0), (.slice x1_p x1_n x1_c)])] w R :=
  Ret.of_fsem Try.func73 rfl (Eq.mp (spec_IntOk_eq x0 x1_p x1_n x1_c w R) h)

end Go.Proofs.Ytfbmjimhjlmhkaa
