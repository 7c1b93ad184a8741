/-
  Parts of the proof of feeExact_holds: G1, G2.
  Conditions: none.
-/
import Derived.Test.YtmajiilehdpdmaaGreatFx1

namespace Go.Proofs.YtmajiilehdpdmaaGreat
open Go Go.Proofs.YtmajiilehdpdmaaGreat.Sx
set_option linter.unusedVariables false
set_option maxRecDepth 100000
def laws_FnExactFeeExact_j2 (r_3 : Nat) (t85 : Int) (W_2 : World) (R : Value → World → Prop) : Prop :=
 ∃ (t1110 : Bool) (t1111_p : Option Addr) (t1111_n : Nat) (t1111_c : Nat) (t1112_p : Option Addr) (t1112_n : Nat) (t1112_c : Nat), Loads P 30 ⟨r_3, 0, none⟩ (.agg #[(.bool t1110), (.slice t1111_p t1111_n t1111_c), (.slice t1112_p t1112_n t1112_c)]) W_2 ∧ Calls P 16 ⟨[(.agg #[(.bool t1110), (.slice t1111_p t1111_n t1111_c), (.slice t1112_p t1112_n t1112_c)]), (.int .i64 1)]⟩ W_2 fun e_21 wv_40 =>
 ∃ (t113 : Int), e_21 = .returned (.int .i64 t113) ∧
 ((decide ((t113 : Int) < 0)) = true →
 R (.bool false) wv_40) ∧
 ((decide ((t113 : Int) < 0)) = false →
 ((decide ((t113 : Int) ≠ t85)) = true →
 R (.bool false) wv_40) ∧
 ((decide ((t113 : Int) ≠ t85)) = false →
 R (.bool true) wv_40))
def laws_FnExactFeeExact_j1 (aL_p : Option Addr) (aL_n : Nat) (aL_c : Nat) (r : Nat) (t32 : Bool) (r_1 : Nat) (r_3 : Nat) (W_1 : World) (R : Value → World → Prop) : Prop :=
 ∃ (t830 : Bool) (t831_p : Option Addr) (t831_n : Nat) (t831_c : Nat) (t832_p : Option Addr) (t832_n : Nat) (t832_c : Nat), Loads P 30 ⟨r_3, 0, none⟩ (.agg #[(.bool t830), (.slice t831_p t831_n t831_c), (.slice t832_p t832_n t832_c)]) W_1 ∧ Calls P 15 ⟨[(.agg #[(.bool t830), (.slice t831_p t831_n t831_c), (.slice t832_p t832_n t832_c)]), (.int .i64 1)]⟩ W_1 fun e_15 wv_28 =>
 ∃ (t85 : Int), e_15 = .returned (.int .i64 t85) ∧
 ∃ (t860 : Bool) (t861_p : Option Addr) (t861_n : Nat) (t861_c : Nat) (t862_p : Option Addr) (t862_n : Nat) (t862_c : Nat), Loads P 30 ⟨r_3, 0, none⟩ (.agg #[(.bool t860), (.slice t861_p t861_n t861_c), (.slice t862_p t862_n t862_c)]) wv_28 ∧ Calls P 16 ⟨[(.agg #[(.bool t860), (.slice t861_p t861_n t861_c), (.slice t862_p t862_n t862_c)]), (.int .i64 1)]⟩ wv_28 fun e_16 wv_29 =>
 ∃ (t88 : Int), e_16 = .returned (.int .i64 t88) ∧
 ((decide ((t88 : Int) < 0)) = true →
 R (.bool false) wv_29) ∧
 ((decide ((t88 : Int) < 0)) = false →
 ((decide ((t88 : Int) ≠ t85)) = true →
 R (.bool false) wv_29) ∧
 ((decide ((t88 : Int) ≠ t85)) = false →
 ∀ (ss_4 : List (Option Nat)) (wv_30 : World), Fl [.cells ⟨[(.bool false), (.slice none 0 0), (.slice none 0 0)]⟩ 30 (0, 0)] [none] wv_29.drew ss_4 wv_30 →
 Calls P 7 ⟨[(.slice aL_p aL_n aL_c)]⟩ wv_30 fun e_17 wv_31 =>
 ∃ (t96_p : Option Addr) (t96_n : Nat) (t96_c : Nat), e_17 = .returned (.slice t96_p t96_n t96_c) ∧
 Ext wv_30 wv_31 ∧ ∃ (t970 : Bool) (t971_p : Option Addr) (t971_n : Nat) (t971_c : Nat), (∀ wv_32, Ext wv_29.drew wv_32 → Loads P 25 ⟨r, 0, none⟩ (.agg #[(.bool t970), (.slice t971_p t971_n t971_c)]) wv_32) ∧ ∀ (ss_5 : List (Option Nat)) (wv_33 : World), Fl [.cells ⟨[(.bool false), (.slice none 0 0), (.slice none 0 0)]⟩ 30 (0, 0)] ss_4 wv_31 ss_5 wv_33 →
 Calls P 8 ⟨[(.agg #[(.bool t970), (.slice t971_p t971_n t971_c)])]⟩ wv_33 fun e_18 wv_34 =>
 ∃ (t980 : Bool) (t981_p : Option Addr) (t981_n : Nat) (t981_c : Nat), e_18 = .returned (.agg #[(.bool t980), (.slice t981_p t981_n t981_c)]) ∧
 ∀ (ss_6 : List (Option Nat)) (wv_35 : World), Fl [.cells ⟨[(.bool false), (.slice none 0 0), (.slice none 0 0)]⟩ 30 (0, 0)] ss_5 wv_34 ss_6 wv_35 →
 Calls P 9 ⟨[(.slice t96_p t96_n t96_c), (.agg #[(.bool t980), (.slice t981_p t981_n t981_c)])]⟩ wv_35 fun e_19 wv_36 =>
 ∃ (t990 : Bool) (t991_p : Option Addr) (t991_n : Nat) (t991_c : Nat) (t992_p : Option Addr) (t992_n : Nat) (t992_c : Nat) (t99 : Bool), e_19 = .returned (.tuple #[(.agg #[(.bool t990), (.slice t991_p t991_n t991_c), (.slice t992_p t992_n t992_c)]), (.bool t99)]) ∧
 ∀ (ss_7 : List (Option Nat)) (wv_37 : World) (r_4 : Nat), Fl [.cells ⟨[(.bool false), (.slice none 0 0), (.slice none 0 0)]⟩ 30 (0, 0)] ss_6 wv_36 ss_7 wv_37 → ss_7[0]? = some (some r_4) →
 ∃ wv_38, Stores P 30 ⟨r_4, 0, none⟩ (.agg #[(.bool t990), (.slice t991_p t991_n t991_c), (.slice t992_p t992_n t992_c)]) wv_37 wv_38 ∧
 ∃ (t1020 : Bool) (t1021_p : Option Addr) (t1021_n : Nat) (t1021_c : Nat) (t1022_p : Option Addr) (t1022_n : Nat) (t1022_c : Nat), Loads P 30 ⟨r_4, 0, none⟩ (.agg #[(.bool t1020), (.slice t1021_p t1021_n t1021_c), (.slice t1022_p t1022_n t1022_c)]) wv_38 ∧ ∃ (t1030 : Bool) (t1031_p : Option Addr) (t1031_n : Nat) (t1031_c : Nat) (t1032_p : Option Addr) (t1032_n : Nat) (t1032_c : Nat), Loads P 30 ⟨r_1, 0, none⟩ (.agg #[(.bool t1030), (.slice t1031_p t1031_n t1031_c), (.slice t1032_p t1032_n t1032_c)]) wv_38 ∧ Calls P 10 ⟨[(.agg #[(.bool t1020), (.slice t1021_p t1021_n t1021_c), (.slice t1022_p t1022_n t1022_c)]), (.agg #[(.bool t1030), (.slice t1031_p t1031_n t1031_c), (.slice t1032_p t1032_n t1032_c)])]⟩ wv_38 fun e_20 wv_39 =>
 ∃ (t104 : Bool), e_20 = .returned (.bool t104) ∧
 ((!t104) = true →
 (true = true →
 R (.bool false) wv_39) ∧
 (true = false →
 laws_FnExactFeeExact_j2 r_3 t85 wv_39 R)) ∧
 ((!t104) = false →
 ((!(t99 == t32)) = true →
 R (.bool false) wv_39) ∧
 ((!(t99 == t32)) = false →
 laws_FnExactFeeExact_j2 r_3 t85 wv_39 R))))
def laws_FnExactFeeExact_j0 (aL_p : Option Addr) (aL_n : Nat) (aL_c : Nat) (r : Nat) (t32 : Bool) (r_1 : Nat) (t36_p : Option Addr) (t36_n : Nat) (t36_c : Nat) (r_2 : Nat) (t42 : Bool) (r_3 : Nat) (W : World) (R : Value → World → Prop) : Prop :=
 Calls P 7 ⟨[(.slice aL_p aL_n aL_c)]⟩ W fun e_9 wv_20 =>
 ∃ (t56_p : Option Addr) (t56_n : Nat) (t56_c : Nat), e_9 = .returned (.slice t56_p t56_n t56_c) ∧
 Calls P 11 ⟨[(.slice t36_p t36_n t36_c), (.slice t56_p t56_n t56_c)]⟩ wv_20 fun e_10 wv_21 =>
 ∃ (t57 : Bool), e_10 = .returned (.bool t57) ∧
 ((!t57) = true →
 R (.bool false) wv_21) ∧
 ((!t57) = false →
 ∃ (t590 : Bool) (t591_p : Option Addr) (t591_n : Nat) (t591_c : Nat), (∀ wv_22, Ext wv_21.drew wv_22 → Loads P 28 ⟨r_2, 0, none⟩ (.agg #[(.bool t590), (.slice t591_p t591_n t591_c)]) wv_22) ∧ ∃ (t600 : Bool) (t601_p : Option Addr) (t601_n : Nat) (t601_c : Nat), (∀ wv_23, Ext wv_21.drew wv_23 → Loads P 25 ⟨r, 0, none⟩ (.agg #[(.bool t600), (.slice t601_p t601_n t601_c)]) wv_23) ∧ Calls P 8 ⟨[(.agg #[(.bool t600), (.slice t601_p t601_n t601_c)])]⟩ wv_21.drew fun e_11 wv_24 =>
 ∃ (t610 : Bool) (t611_p : Option Addr) (t611_n : Nat) (t611_c : Nat), e_11 = .returned (.agg #[(.bool t610), (.slice t611_p t611_n t611_c)]) ∧
 Ext wv_21.drew wv_24 ∧ Calls P 12 ⟨[(.agg #[(.bool t590), (.slice t591_p t591_n t591_c)]), (.agg #[(.bool t610), (.slice t611_p t611_n t611_c)])]⟩ wv_24 fun e_12 wv_25 =>
 ∃ (t62 : Bool), e_12 = .returned (.bool t62) ∧
 ((!t62) = true →
 R (.bool false) wv_25) ∧
 ((!t62) = false →
 Calls P 13 ⟨[(.slice t36_p t36_n t36_c), (.int .i64 1)]⟩ wv_25 fun e_13 wv_26 =>
 ∃ (t66 : Int), e_13 = .returned (.int .i64 t66) ∧
 ∃ (t670 : Bool) (t671_p : Option Addr) (t671_n : Nat) (t671_c : Nat), Loads P 28 ⟨r_2, 0, none⟩ (.agg #[(.bool t670), (.slice t671_p t671_n t671_c)]) wv_26 ∧ Calls P 14 ⟨[(.agg #[(.bool t670), (.slice t671_p t671_n t671_c)]), (.int .i64 t66)]⟩ wv_26 fun e_14 wv_27 =>
 ∃ (t69 : Int), e_14 = .returned (.int .i64 t69) ∧
 ((decide ((t69 : Int) < 0)) = true →
 (true = true →
 (true = true →
 R (.bool false) wv_27) ∧
 (true = false →
 laws_FnExactFeeExact_j1 aL_p aL_n aL_c r t32 r_1 r_3 wv_27 R)) ∧
 (true = false →
 ((!(t42 == t32)) = true →
 R (.bool false) wv_27) ∧
 ((!(t42 == t32)) = false →
 laws_FnExactFeeExact_j1 aL_p aL_n aL_c r t32 r_1 r_3 wv_27 R))) ∧
 ((decide ((t69 : Int) < 0)) = false →
 ∃ (t730 : Bool) (t731_p : Option Addr) (t731_n : Nat) (t731_c : Nat) (t732_p : Option Addr) (t732_n : Nat) (t732_c : Nat), Loads P 30 ⟨r_3, 0, none⟩ (.agg #[(.bool t730), (.slice t731_p t731_n t731_c), (.slice t732_p t732_n t732_c)]) wv_27 ∧ ∃ (t740 : Bool) (t741_p : Option Addr) (t741_n : Nat) (t741_c : Nat) (t742_p : Option Addr) (t742_n : Nat) (t742_c : Nat), Loads P 30 ⟨r_1, 0, none⟩ (.agg #[(.bool t740), (.slice t741_p t741_n t741_c), (.slice t742_p t742_n t742_c)]) wv_27 ∧ Calls P 10 ⟨[(.agg #[(.bool t730), (.slice t731_p t731_n t731_c), (.slice t732_p t732_n t732_c)]), (.agg #[(.bool t740), (.slice t741_p t741_n t741_c), (.slice t742_p t742_n t742_c)])]⟩ wv_27 fun e_22 wv_41 =>
 ∃ (t75 : Bool), e_22 = .returned (.bool t75) ∧
 ((!t75) = true →
 (true = true →
 R (.bool false) wv_41) ∧
 (true = false →
 laws_FnExactFeeExact_j1 aL_p aL_n aL_c r t32 r_1 r_3 wv_41 R)) ∧
 ((!t75) = false →
 ((!(t42 == t32)) = true →
 R (.bool false) wv_41) ∧
 ((!(t42 == t32)) = false →
 laws_FnExactFeeExact_j1 aL_p aL_n aL_c r t32 r_1 r_3 wv_41 R)))))
def laws_FnExactFeeExact (aL_p : Option Addr) (aL_n : Nat) (aL_c : Nat) (aUnits0 : Bool) (aUnits1_p : Option Addr) (aUnits1_n : Nat) (aUnits1_c : Nat) (w : World) (R : Value → World → Prop) : Prop :=
 ∀ (r : Nat) (wv : World), New w (.cells ⟨[(.bool aUnits0), (.slice aUnits1_p aUnits1_n aUnits1_c)]⟩ 25 (0, 0)) r wv →
 Calls P 4 ⟨[(.slice aL_p aL_n aL_c), (.int .i64 1048576)]⟩ wv fun e wv_1 =>
 ∃ (t19 : Int), e = .returned (.int .i64 t19) ∧
 ((decide ((t19 : Int) < 0)) = true →
 R (.bool true) wv_1) ∧
 ((decide ((t19 : Int) < 0)) = false →
 ∃ (t220 : Bool) (t221_p : Option Addr) (t221_n : Nat) (t221_c : Nat), Loads P 25 ⟨r, 0, none⟩ (.agg #[(.bool t220), (.slice t221_p t221_n t221_c)]) wv_1 ∧ Calls P 5 ⟨[(.agg #[(.bool t220), (.slice t221_p t221_n t221_c)]), (.int .i64 t19)]⟩ wv_1 fun e_1 wv_2 =>
 ∃ (t24 : Int), e_1 = .returned (.int .i64 t24) ∧
 ((decide ((t24 : Int) < 0)) = true →
 R (.bool true) wv_2) ∧
 ((decide ((t24 : Int) < 0)) = false →
 ∀ (ss : List (Option Nat)) (wv_3 : World), Fl [.cells ⟨[(.bool false), (.slice none 0 0), (.slice none 0 0)]⟩ 30 (0, 0)] [none] wv_2.drew ss wv_3 →
 Calls P 7 ⟨[(.slice aL_p aL_n aL_c)]⟩ wv_3 fun e_2 wv_4 =>
 ∃ (t29_p : Option Addr) (t29_n : Nat) (t29_c : Nat), e_2 = .returned (.slice t29_p t29_n t29_c) ∧
 Ext wv_3 wv_4 ∧ ∃ (t300 : Bool) (t301_p : Option Addr) (t301_n : Nat) (t301_c : Nat), (∀ wv_5, Ext wv_2.drew wv_5 → Loads P 25 ⟨r, 0, none⟩ (.agg #[(.bool t300), (.slice t301_p t301_n t301_c)]) wv_5) ∧ ∀ (ss_1 : List (Option Nat)) (wv_6 : World), Fl [.cells ⟨[(.bool false), (.slice none 0 0), (.slice none 0 0)]⟩ 30 (0, 0)] ss wv_4 ss_1 wv_6 →
 Calls P 8 ⟨[(.agg #[(.bool t300), (.slice t301_p t301_n t301_c)])]⟩ wv_6 fun e_3 wv_7 =>
 ∃ (t310 : Bool) (t311_p : Option Addr) (t311_n : Nat) (t311_c : Nat), e_3 = .returned (.agg #[(.bool t310), (.slice t311_p t311_n t311_c)]) ∧
 ∀ (ss_2 : List (Option Nat)) (wv_8 : World), Fl [.cells ⟨[(.bool false), (.slice none 0 0), (.slice none 0 0)]⟩ 30 (0, 0)] ss_1 wv_7 ss_2 wv_8 →
 Calls P 6 ⟨[(.slice t29_p t29_n t29_c), (.agg #[(.bool t310), (.slice t311_p t311_n t311_c)])]⟩ wv_8 fun e_4 wv_9 =>
 ∃ (t320 : Bool) (t321_p : Option Addr) (t321_n : Nat) (t321_c : Nat) (t322_p : Option Addr) (t322_n : Nat) (t322_c : Nat) (t32 : Bool), e_4 = .returned (.tuple #[(.agg #[(.bool t320), (.slice t321_p t321_n t321_c), (.slice t322_p t322_n t322_c)]), (.bool t32)]) ∧
 ∀ (ss_3 : List (Option Nat)) (wv_10 : World) (r_1 : Nat), Fl [.cells ⟨[(.bool false), (.slice none 0 0), (.slice none 0 0)]⟩ 30 (0, 0)] ss_2 wv_9 ss_3 wv_10 → ss_3[0]? = some (some r_1) →
 ∃ wv_11, Stores P 30 ⟨r_1, 0, none⟩ (.agg #[(.bool t320), (.slice t321_p t321_n t321_c), (.slice t322_p t322_n t322_c)]) wv_10 wv_11 ∧
 Calls P 7 ⟨[(.slice aL_p aL_n aL_c)]⟩ wv_11 fun e_5 wv_12 =>
 ∃ (t36_p : Option Addr) (t36_n : Nat) (t36_c : Nat), e_5 = .returned (.slice t36_p t36_n t36_c) ∧
 ∃ (t370 : Bool) (t371_p : Option Addr) (t371_n : Nat) (t371_c : Nat), Loads P 25 ⟨r, 0, none⟩ (.agg #[(.bool t370), (.slice t371_p t371_n t371_c)]) wv_12 ∧ Calls P 8 ⟨[(.agg #[(.bool t370), (.slice t371_p t371_n t371_c)])]⟩ wv_12 fun e_6 wv_13 =>
 ∃ (t380 : Bool) (t381_p : Option Addr) (t381_n : Nat) (t381_c : Nat), e_6 = .returned (.agg #[(.bool t380), (.slice t381_p t381_n t381_c)]) ∧
 ∀ (r_2 : Nat) (wv_14 : World), New wv_13 (.cells ⟨[(.bool false), (.slice none 0 0)]⟩ 28 (0, 0)) r_2 wv_14 →
 ∃ wv_15, Stores P 28 ⟨r_2, 0, none⟩ (.agg #[(.bool t380), (.slice t381_p t381_n t381_c)]) wv_14 wv_15 ∧
 ∃ (t410 : Bool) (t411_p : Option Addr) (t411_n : Nat) (t411_c : Nat), Loads P 28 ⟨r_2, 0, none⟩ (.agg #[(.bool t410), (.slice t411_p t411_n t411_c)]) wv_15 ∧ Calls P 9 ⟨[(.slice t36_p t36_n t36_c), (.agg #[(.bool t410), (.slice t411_p t411_n t411_c)])]⟩ wv_15 fun e_7 wv_16 =>
 ∃ (t420 : Bool) (t421_p : Option Addr) (t421_n : Nat) (t421_c : Nat) (t422_p : Option Addr) (t422_n : Nat) (t422_c : Nat) (t42 : Bool), e_7 = .returned (.tuple #[(.agg #[(.bool t420), (.slice t421_p t421_n t421_c), (.slice t422_p t422_n t422_c)]), (.bool t42)]) ∧
 ∀ (r_3 : Nat) (wv_17 : World), New wv_16 (.cells ⟨[(.bool false), (.slice none 0 0), (.slice none 0 0)]⟩ 30 (0, 0)) r_3 wv_17 →
 ∃ wv_18, Stores P 30 ⟨r_3, 0, none⟩ (.agg #[(.bool t420), (.slice t421_p t421_n t421_c), (.slice t422_p t422_n t422_c)]) wv_17 wv_18 ∧
 ∃ (t450 : Bool) (t451_p : Option Addr) (t451_n : Nat) (t451_c : Nat) (t452_p : Option Addr) (t452_n : Nat) (t452_c : Nat), Loads P 30 ⟨r_3, 0, none⟩ (.agg #[(.bool t450), (.slice t451_p t451_n t451_c), (.slice t452_p t452_n t452_c)]) wv_18 ∧ ∃ (t460 : Bool) (t461_p : Option Addr) (t461_n : Nat) (t461_c : Nat) (t462_p : Option Addr) (t462_n : Nat) (t462_c : Nat), Loads P 30 ⟨r_1, 0, none⟩ (.agg #[(.bool t460), (.slice t461_p t461_n t461_c), (.slice t462_p t462_n t462_c)]) wv_18 ∧ Calls P 10 ⟨[(.agg #[(.bool t450), (.slice t451_p t451_n t451_c), (.slice t452_p t452_n t452_c)]), (.agg #[(.bool t460), (.slice t461_p t461_n t461_c), (.slice t462_p t462_n t462_c)])]⟩ wv_18 fun e_8 wv_19 =>
 ∃ (t47 : Bool), e_8 = .returned (.bool t47) ∧
 ((!t47) = true →
 (true = true →
 R (.bool false) wv_19) ∧
 (true = false →
 laws_FnExactFeeExact_j0 aL_p aL_n aL_c r t32 r_1 t36_p t36_n t36_c r_2 t42 r_3 wv_19 R)) ∧
 ((!t47) = false →
 ((!(t42 == t32)) = true →
 R (.bool false) wv_19) ∧
 ((!(t42 == t32)) = false →
 laws_FnExactFeeExact_j0 aL_p aL_n aL_c r t32 r_1 t36_p t36_n t36_c r_2 t42 r_3 wv_19 R))))
theorem laws_FnExactFeeExact_ret {aL_p : Option Addr} {aL_n : Nat} {aL_c : Nat} {aUnits0 : Bool} {aUnits1_p : Option Addr} {aUnits1_n : Nat} {aUnits1_c : Nat} {w : World} {R : Value → World → Prop} (h : laws_FnExactFeeExact aL_p aL_n aL_c aUnits0 aUnits1_p aUnits1_n aUnits1_c w R) : Ret P 3 [(.slice aL_p aL_n aL_c), (.agg #[(.bool aUnits0), (.slice aUnits1_p aUnits1_n aUnits1_c)])] w R :=
  Ret.of_fsem Tryz.func3 rfl (Eq.mp (show _ = fsem P Tryz.f3 (fun k => []) _ R w from by kernel_rfl) h)
def spec_FeeExact_j0 (l_p : Option Addr) (l_n : Nat) (l_c : Nat) (r : Nat) (r_1 : Nat) (W : World) (R : Value → World → Prop) : Prop :=
 Calls P 21 ⟨[]⟩ W fun e_1 wv_4 =>
 ∃ (t280 : Bool) (t281_p : Option Addr) (t281_n : Nat) (t281_c : Nat) (t282_p : Option Addr) (t282_n : Nat) (t282_c : Nat), e_1 = .returned (.agg #[(.bool t280), (.slice t281_p t281_n t281_c), (.slice t282_p t282_n t282_c)]) ∧
 ∀ (r_2 : Nat) (wv_5 : World), New wv_4 (.cells ⟨[(.bool false), (.slice none 0 0), (.slice none 0 0)]⟩ 30 (0, 0)) r_2 wv_5 →
 ∃ wv_6, Stores P 30 ⟨r_2, 0, none⟩ (.agg #[(.bool t280), (.slice t281_p t281_n t281_c), (.slice t282_p t282_n t282_c)]) wv_5 wv_6 ∧
 ∃ (t290 : Bool) (t291_p : Option Addr) (t291_n : Nat) (t291_c : Nat), Loads P 28 ⟨r, 0, none⟩ (.agg #[(.bool t290), (.slice t291_p t291_n t291_c)]) wv_6 ∧ Calls P 22 ⟨[(.agg #[(.bool t290), (.slice t291_p t291_n t291_c)])]⟩ wv_6 fun e_2 wv_7 =>
 ∃ (t300 : Bool) (t301_p : Option Addr) (t301_n : Nat) (t301_c : Nat), e_2 = .returned (.agg #[(.bool t300), (.slice t301_p t301_n t301_c)]) ∧
 ∀ (r_3 : Nat) (wv_8 : World), New wv_7 (.cells ⟨[(.bool false), (.slice none 0 0)]⟩ 28 (0, 0)) r_3 wv_8 →
 ∃ wv_9, Stores P 28 ⟨r_3, 0, none⟩ (.agg #[(.bool t300), (.slice t301_p t301_n t301_c)]) wv_8 wv_9 ∧
 ∃ (t320 : Bool) (t321_p : Option Addr) (t321_n : Nat) (t321_c : Nat), Loads P 28 ⟨r, 0, none⟩ (.agg #[(.bool t320), (.slice t321_p t321_n t321_c)]) wv_9 ∧ Calls P 23 ⟨[(.slice l_p l_n l_c), (.agg #[(.bool t320), (.slice t321_p t321_n t321_c)])]⟩ wv_9 fun e_3 wv_10 =>
 ∃ (t33 : Int), e_3 = .returned (.int .i64 t33) ∧
 ∃ (Inv : Int → World → Prop) (mu : Int → World → Nat), Inv t33 wv_10 ∧
 ∀ (junk : Fr) (wv_11 : World) (i : Int), Inv i wv_11 →
 ((decide ((0 : Int) ≤ i)) = true →
 ∃ (t390 : Bool) (t391_p : Option Addr) (t391_n : Nat) (t391_c : Nat), (∀ wv_12, Ext wv_11.drew wv_12 → Loads P 28 ⟨r_3, 0, none⟩ (.agg #[(.bool t390), (.slice t391_p t391_n t391_c)]) wv_12) ∧ (0 ≤ (i : Int) ∧ (i : Int) < (l_n : Nat)) ∧ ptrS l_p fun ad => ∃ (t44 : Int), (∀ wv_13, Ext wv_11.drew wv_13 → Loads P 3 ((ad.add (i.toNat * 4)).add 0) (.int .i64 t44) wv_13) ∧ ∀ (ss : List (Option Nat)) (wv_14 : World), Fl [.cells ⟨[(.bool false), (.slice none 0 0), (.slice none 0 0)]⟩ 30 (0, 0)] [none] wv_11.drew ss wv_14 →
 Calls P 26 ⟨[(.int .i64 t44)]⟩ wv_14 fun e_4 wv_15 =>
 ∃ (t450 : Bool) (t451_p : Option Addr) (t451_n : Nat) (t451_c : Nat), e_4 = .returned (.agg #[(.bool t450), (.slice t451_p t451_n t451_c)]) ∧
 Ext wv_14 wv_15 ∧ ∀ (ss_1 : List (Option Nat)) (wv_16 : World), Fl [.cells ⟨[(.bool false), (.slice none 0 0), (.slice none 0 0)]⟩ 30 (0, 0)] ss wv_15 ss_1 wv_16 →
 Calls P 25 ⟨[(.agg #[(.bool t390), (.slice t391_p t391_n t391_c)]), (.agg #[(.bool t450), (.slice t451_p t451_n t451_c)])]⟩ wv_16 fun e_5 wv_17 =>
 ∃ (t460 : Bool) (t461_p : Option Addr) (t461_n : Nat) (t461_c : Nat), e_5 = .returned (.agg #[(.bool t460), (.slice t461_p t461_n t461_c)]) ∧
 ∀ (ss_2 : List (Option Nat)) (wv_18 : World), Fl [.cells ⟨[(.bool false), (.slice none 0 0), (.slice none 0 0)]⟩ 30 (0, 0)] ss_1 wv_17 ss_2 wv_18 →
 Calls P 24 ⟨[(.agg #[(.bool t460), (.slice t461_p t461_n t461_c)])]⟩ wv_18 fun e_6 wv_19 =>
 ∃ (t470 : Bool) (t471_p : Option Addr) (t471_n : Nat) (t471_c : Nat) (t472_p : Option Addr) (t472_n : Nat) (t472_c : Nat) (t47 : Bool), e_6 = .returned (.tuple #[(.agg #[(.bool t470), (.slice t471_p t471_n t471_c), (.slice t472_p t472_n t472_c)]), (.bool t47)]) ∧
 ∀ (ss_3 : List (Option Nat)) (wv_20 : World) (r_4 : Nat), Fl [.cells ⟨[(.bool false), (.slice none 0 0), (.slice none 0 0)]⟩ 30 (0, 0)] ss_2 wv_19 ss_3 wv_20 → ss_3[0]? = some (some r_4) →
 ∃ wv_21, Stores P 30 ⟨r_4, 0, none⟩ (.agg #[(.bool t470), (.slice t471_p t471_n t471_c), (.slice t472_p t472_n t472_c)]) wv_20 wv_21 ∧
 ∃ (t510 : Bool) (t511_p : Option Addr) (t511_n : Nat) (t511_c : Nat) (t512_p : Option Addr) (t512_n : Nat) (t512_c : Nat), (∀ wv_22, Ext wv_21.drew wv_22 → Loads P 30 ⟨r_4, 0, none⟩ (.agg #[(.bool t510), (.slice t511_p t511_n t511_c), (.slice t512_p t512_n t512_c)]) wv_22) ∧ (0 ≤ (i : Int) ∧ (i : Int) < (l_n : Nat)) ∧ ptrS l_p fun ad_1 => ∃ (t560 : Bool) (t561_p : Option Addr) (t561_n : Nat) (t561_c : Nat) (t562 : Int), (∀ wv_23, Ext wv_21.drew wv_23 → Loads P 58 ((ad_1.add (i.toNat * 4)).add 1) (.agg #[(.bool t560), (.slice t561_p t561_n t561_c), (.int .i64 t562)]) wv_23) ∧ ∀ (ss_4 : List (Option Nat)) (wv_24 : World), Fl [.cells ⟨[(.bool false), (.slice none 0 0), (.slice none 0 0)]⟩ 30 (0, 0)] [none] wv_21.drew ss_4 wv_24 →
 Calls P 28 ⟨[(.agg #[(.bool t560), (.slice t561_p t561_n t561_c), (.int .i64 t562)])]⟩ wv_24 fun e_7 wv_25 =>
 ∃ (t570 : Bool) (t571_p : Option Addr) (t571_n : Nat) (t571_c : Nat) (t572_p : Option Addr) (t572_n : Nat) (t572_c : Nat), e_7 = .returned (.agg #[(.bool t570), (.slice t571_p t571_n t571_c), (.slice t572_p t572_n t572_c)]) ∧
 Ext wv_24 wv_25 ∧ ∀ (ss_5 : List (Option Nat)) (wv_26 : World), Fl [.cells ⟨[(.bool false), (.slice none 0 0), (.slice none 0 0)]⟩ 30 (0, 0)] ss_4 wv_25 ss_5 wv_26 →
 Calls P 27 ⟨[(.agg #[(.bool t510), (.slice t511_p t511_n t511_c), (.slice t512_p t512_n t512_c)]), (.agg #[(.bool t570), (.slice t571_p t571_n t571_c), (.slice t572_p t572_n t572_c)])]⟩ wv_26 fun e_8 wv_27 =>
 ∃ (t580 : Bool) (t581_p : Option Addr) (t581_n : Nat) (t581_c : Nat) (t582_p : Option Addr) (t582_n : Nat) (t582_c : Nat) (t58 : Bool), e_8 = .returned (.tuple #[(.agg #[(.bool t580), (.slice t581_p t581_n t581_c), (.slice t582_p t582_n t582_c)]), (.bool t58)]) ∧
 ∀ (ss_6 : List (Option Nat)) (wv_28 : World) (r_5 : Nat), Fl [.cells ⟨[(.bool false), (.slice none 0 0), (.slice none 0 0)]⟩ 30 (0, 0)] ss_5 wv_27 ss_6 wv_28 → ss_6[0]? = some (some r_5) →
 ∃ wv_29, Stores P 30 ⟨r_5, 0, none⟩ (.agg #[(.bool t580), (.slice t581_p t581_n t581_c), (.slice t582_p t582_n t582_c)]) wv_28 wv_29 ∧
 ∃ (t620 : Bool) (t621_p : Option Addr) (t621_n : Nat) (t621_c : Nat) (t622_p : Option Addr) (t622_n : Nat) (t622_c : Nat), Loads P 30 ⟨r_2, 0, none⟩ (.agg #[(.bool t620), (.slice t621_p t621_n t621_c), (.slice t622_p t622_n t622_c)]) wv_29 ∧ ∃ (t630 : Bool) (t631_p : Option Addr) (t631_n : Nat) (t631_c : Nat) (t632_p : Option Addr) (t632_n : Nat) (t632_c : Nat), Loads P 30 ⟨r_5, 0, none⟩ (.agg #[(.bool t630), (.slice t631_p t631_n t631_c), (.slice t632_p t632_n t632_c)]) wv_29 ∧ Calls P 29 ⟨[(.agg #[(.bool t620), (.slice t621_p t621_n t621_c), (.slice t622_p t622_n t622_c)]), (.agg #[(.bool t630), (.slice t631_p t631_n t631_c), (.slice t632_p t632_n t632_c)])]⟩ wv_29 fun e_9 wv_30 =>
 ∃ (t640 : Bool) (t641_p : Option Addr) (t641_n : Nat) (t641_c : Nat) (t642_p : Option Addr) (t642_n : Nat) (t642_c : Nat) (t64 : Bool), e_9 = .returned (.tuple #[(.agg #[(.bool t640), (.slice t641_p t641_n t641_c), (.slice t642_p t642_n t642_c)]), (.bool t64)]) ∧
 ∃ wv_31, Stores P 30 ⟨r_2, 0, none⟩ (.agg #[(.bool t640), (.slice t641_p t641_n t641_c), (.slice t642_p t642_n t642_c)]) wv_30 wv_31 ∧
 (0 ≤ (i : Int) ∧ (i : Int) < (l_n : Nat)) ∧ ptrS l_p fun ad_2 => ∃ (t71 : Int), Loads P 3 ((ad_2.add (i.toNat * 4)).add 0) (.int .i64 t71) wv_31 ∧ Calls P 26 ⟨[(.int .i64 t71)]⟩ wv_31 fun e_10 wv_32 =>
 ∃ (t720 : Bool) (t721_p : Option Addr) (t721_n : Nat) (t721_c : Nat), e_10 = .returned (.agg #[(.bool t720), (.slice t721_p t721_n t721_c)]) ∧
 ∃ wv_33, Stores P 28 ⟨r_3, 0, none⟩ (.agg #[(.bool t720), (.slice t721_p t721_n t721_c)]) wv_32 wv_33 ∧
 ∃ t37 : Int, t37 = IntKind.wrap .i64 (i - 1) ∧ Inv t37 wv_33 ∧ mu t37 wv_33 < mu i wv_11) ∧
 ((decide ((0 : Int) ≤ i)) = false →
 ∃ (t730 : Bool) (t731_p : Option Addr) (t731_n : Nat) (t731_c : Nat) (t732_p : Option Addr) (t732_n : Nat) (t732_c : Nat), Loads P 30 ⟨r_2, 0, none⟩ (.agg #[(.bool t730), (.slice t731_p t731_n t731_c), (.slice t732_p t732_n t732_c)]) wv_11 ∧ ∃ wv_34, Stores P 30 ⟨r_1, 0, none⟩ (.agg #[(.bool t730), (.slice t731_p t731_n t731_c), (.slice t732_p t732_n t732_c)]) wv_11 wv_34 ∧
 ∃ (r0_1 : Bool) (r1_p_1 : Option Addr) (r1_n_1 : Nat) (r1_c_1 : Nat) (r2_p_1 : Option Addr) (r2_n_1 : Nat) (r2_c_1 : Nat), Loads P 30 ⟨r_1, 0, none⟩ (.agg #[(.bool r0_1), (.slice r1_p_1 r1_n_1 r1_c_1), (.slice r2_p_1 r2_n_1 r2_c_1)]) wv_34 ∧ R (.tuple #[(.agg #[(.bool r0_1), (.slice r1_p_1 r1_n_1 r1_c_1), (.slice r2_p_1 r2_n_1 r2_c_1)]), (.bool true)]) wv_34)
def spec_FeeExact (l_p : Option Addr) (l_n : Nat) (l_c : Nat) (units0 : Bool) (units1_p : Option Addr) (units1_n : Nat) (units1_c : Nat) (w : World) (R : Value → World → Prop) : Prop :=
 ∀ (r : Nat) (wv : World), New w (.cells ⟨[(.bool units0), (.slice units1_p units1_n units1_c)]⟩ 28 (0, 0)) r wv →
 ∀ (r_1 : Nat) (wv_1 : World), New wv (.cells ⟨[(.bool false), (.slice none 0 0), (.slice none 0 0)]⟩ 30 (0, 0)) r_1 wv_1 →
 Calls P 19 ⟨[(.slice l_p l_n l_c)]⟩ wv_1 fun e wv_2 =>
 ∃ (t14 : Bool), e = .returned (.bool t14) ∧
 ((!t14) = true →
 (true = true →
 (true = true →
 ∃ wv_3, Stores P 30 ⟨r_1, 0, none⟩ (.agg #[(.bool false), (.slice none 0 0), (.slice none 0 0)]) wv_2 wv_3 ∧
 ∃ (r0 : Bool) (r1_p : Option Addr) (r1_n : Nat) (r1_c : Nat) (r2_p : Option Addr) (r2_n : Nat) (r2_c : Nat), Loads P 30 ⟨r_1, 0, none⟩ (.agg #[(.bool r0), (.slice r1_p r1_n r1_c), (.slice r2_p r2_n r2_c)]) wv_3 ∧ R (.tuple #[(.agg #[(.bool r0), (.slice r1_p r1_n r1_c), (.slice r2_p r2_n r2_c)]), (.bool false)]) wv_3) ∧
 (true = false →
 spec_FeeExact_j0 l_p l_n l_c r r_1 wv_2 R)) ∧
 (true = false →
 ∃ (t23_p : Option Addr) (t23_n : Nat) (t23_c : Nat), Loads P 23 ((⟨r, 0, none⟩ : Addr).add 1) (.slice t23_p t23_n t23_c) wv_2 ∧ ((decide ((4 : Int) < ((t23_n : Nat) : Int))) = true →
 ∃ wv_35, Stores P 30 ⟨r_1, 0, none⟩ (.agg #[(.bool false), (.slice none 0 0), (.slice none 0 0)]) wv_2 wv_35 ∧
 ∃ (r0_2 : Bool) (r1_p_2 : Option Addr) (r1_n_2 : Nat) (r1_c_2 : Nat) (r2_p_2 : Option Addr) (r2_n_2 : Nat) (r2_c_2 : Nat), Loads P 30 ⟨r_1, 0, none⟩ (.agg #[(.bool r0_2), (.slice r1_p_2 r1_n_2 r1_c_2), (.slice r2_p_2 r2_n_2 r2_c_2)]) wv_35 ∧ R (.tuple #[(.agg #[(.bool r0_2), (.slice r1_p_2 r1_n_2 r1_c_2), (.slice r2_p_2 r2_n_2 r2_c_2)]), (.bool false)]) wv_35) ∧
 ((decide ((4 : Int) < ((t23_n : Nat) : Int))) = false →
 spec_FeeExact_j0 l_p l_n l_c r r_1 wv_2 R))) ∧
 ((!t14) = false →
 ∃ (t170 : Bool) (t171_p : Option Addr) (t171_n : Nat) (t171_c : Nat), Loads P 28 ⟨r, 0, none⟩ (.agg #[(.bool t170), (.slice t171_p t171_n t171_c)]) wv_2 ∧ Calls P 20 ⟨[(.agg #[(.bool t170), (.slice t171_p t171_n t171_c)])]⟩ wv_2 fun e_11 wv_36 =>
 ∃ (t18 : Bool), e_11 = .returned (.bool t18) ∧
 ((!t18) = true →
 (true = true →
 ∃ wv_37, Stores P 30 ⟨r_1, 0, none⟩ (.agg #[(.bool false), (.slice none 0 0), (.slice none 0 0)]) wv_36 wv_37 ∧
 ∃ (r0_3 : Bool) (r1_p_3 : Option Addr) (r1_n_3 : Nat) (r1_c_3 : Nat) (r2_p_3 : Option Addr) (r2_n_3 : Nat) (r2_c_3 : Nat), Loads P 30 ⟨r_1, 0, none⟩ (.agg #[(.bool r0_3), (.slice r1_p_3 r1_n_3 r1_c_3), (.slice r2_p_3 r2_n_3 r2_c_3)]) wv_37 ∧ R (.tuple #[(.agg #[(.bool r0_3), (.slice r1_p_3 r1_n_3 r1_c_3), (.slice r2_p_3 r2_n_3 r2_c_3)]), (.bool false)]) wv_37) ∧
 (true = false →
 spec_FeeExact_j0 l_p l_n l_c r r_1 wv_36 R)) ∧
 ((!t18) = false →
 ∃ (t23_p_1 : Option Addr) (t23_n_1 : Nat) (t23_c_1 : Nat), Loads P 23 ((⟨r, 0, none⟩ : Addr).add 1) (.slice t23_p_1 t23_n_1 t23_c_1) wv_36 ∧ ((decide ((4 : Int) < ((t23_n_1 : Nat) : Int))) = true →
 ∃ wv_38, Stores P 30 ⟨r_1, 0, none⟩ (.agg #[(.bool false), (.slice none 0 0), (.slice none 0 0)]) wv_36 wv_38 ∧
 ∃ (r0_4 : Bool) (r1_p_4 : Option Addr) (r1_n_4 : Nat) (r1_c_4 : Nat) (r2_p_4 : Option Addr) (r2_n_4 : Nat) (r2_c_4 : Nat), Loads P 30 ⟨r_1, 0, none⟩ (.agg #[(.bool r0_4), (.slice r1_p_4 r1_n_4 r1_c_4), (.slice r2_p_4 r2_n_4 r2_c_4)]) wv_38 ∧ R (.tuple #[(.agg #[(.bool r0_4), (.slice r1_p_4 r1_n_4 r1_c_4), (.slice r2_p_4 r2_n_4 r2_c_4)]), (.bool false)]) wv_38) ∧
 ((decide ((4 : Int) < ((t23_n_1 : Nat) : Int))) = false →
 spec_FeeExact_j0 l_p l_n l_c r r_1 wv_36 R)))
theorem spec_FeeExact_ret {l_p : Option Addr} {l_n : Nat} {l_c : Nat} {units0 : Bool} {units1_p : Option Addr} {units1_n : Nat} {units1_c : Nat} {w : World} {R : Value → World → Prop} (h : spec_FeeExact l_p l_n l_c units0 units1_p units1_n units1_c w R) : Ret P 6 [(.slice l_p l_n l_c), (.agg #[(.bool units0), (.slice units1_p units1_n units1_c)])] w R :=
  Ret.of_fsem Tryz.func6 rfl (Eq.mp (show _ = fsem P Tryz.f6 (fun k => cond (Nat.beq k 7) [(8, .one (.int .i64))] ([])) _ R w from by kernel_rfl) h)
def impl_FeeExact_j0 (r : Nat) (r_1 : Nat) (W : World) (R : Value → World → Prop) : Prop :=
 Calls P 34 ⟨[]⟩ W fun e_1 wv_5 =>
 ∃ (t310 : Bool) (t311_p : Option Addr) (t311_n : Nat) (t311_c : Nat) (t312_p : Option Addr) (t312_n : Nat) (t312_c : Nat), e_1 = .returned (.agg #[(.bool t310), (.slice t311_p t311_n t311_c), (.slice t312_p t312_n t312_c)]) ∧
 ∀ (r_3 : Nat) (wv_6 : World), New wv_5 (.cells ⟨[(.bool false), (.slice none 0 0), (.slice none 0 0)]⟩ 30 (0, 0)) r_3 wv_6 →
 ∀ (r_4 : Nat) (wv_7 : World), New wv_6 (.cells ⟨[(.bool false)]⟩ 4 (0, 0)) r_4 wv_7 →
 ∃ wv_8, Stores P 30 ⟨r_3, 0, none⟩ (.agg #[(.bool t310), (.slice t311_p t311_n t311_c), (.slice t312_p t312_n t312_c)]) wv_7 wv_8 ∧
 ∃ wv_9, Stores P 4 ⟨r_4, 0, none⟩ (.bool true) wv_8 wv_9 ∧
 ∃ (t32_p : Option Addr) (t32_n : Nat) (t32_c : Nat), Loads P 33 ⟨r, 0, none⟩ (.slice t32_p t32_n t32_c) wv_9 ∧ ∃ (t34_p : Option Addr) (t34_n : Nat) (t34_c : Nat), Loads P 23 ((⟨r_1, 0, none⟩ : Addr).add 1) (.slice t34_p t34_n t34_c) wv_9 ∧ Calls P 35 ⟨[(.slice t32_p t32_n t32_c), (.slice t34_p t34_n t34_c)]⟩ wv_9 fun e_2 wv_10 =>
 ∃ (t35 : Value), e_2 = .returned t35 ∧
 False
def impl_FeeExact (l_p : Option Addr) (l_n : Nat) (l_c : Nat) (units0 : Bool) (units1_p : Option Addr) (units1_n : Nat) (units1_c : Nat) (w : World) (R : Value → World → Prop) : Prop :=
 ∀ (r : Nat) (wv : World), New w (.cells ⟨[(.slice l_p l_n l_c)]⟩ 33 (0, 0)) r wv →
 ∀ (r_1 : Nat) (wv_1 : World), New wv (.cells ⟨[(.bool units0), (.slice units1_p units1_n units1_c)]⟩ 28 (0, 0)) r_1 wv_1 →
 ∀ (r_2 : Nat) (wv_2 : World), New wv_1 (.cells ⟨[(.bool false), (.slice none 0 0), (.slice none 0 0)]⟩ 30 (0, 0)) r_2 wv_2 →
 ∃ (t16_p : Option Addr) (t16_n : Nat) (t16_c : Nat), Loads P 33 ⟨r, 0, none⟩ (.slice t16_p t16_n t16_c) wv_2 ∧ Calls P 32 ⟨[(.slice t16_p t16_n t16_c)]⟩ wv_2 fun e wv_3 =>
 ∃ (t17 : Bool), e = .returned (.bool t17) ∧
 ((!t17) = true →
 (true = true →
 (true = true →
 ∃ wv_4, Stores P 30 ⟨r_2, 0, none⟩ (.agg #[(.bool false), (.slice none 0 0), (.slice none 0 0)]) wv_3 wv_4 ∧
 ∃ (r0 : Bool) (r1_p : Option Addr) (r1_n : Nat) (r1_c : Nat) (r2_p : Option Addr) (r2_n : Nat) (r2_c : Nat), Loads P 30 ⟨r_2, 0, none⟩ (.agg #[(.bool r0), (.slice r1_p r1_n r1_c), (.slice r2_p r2_n r2_c)]) wv_4 ∧ R (.tuple #[(.agg #[(.bool r0), (.slice r1_p r1_n r1_c), (.slice r2_p r2_n r2_c)]), (.bool false)]) wv_4) ∧
 (true = false →
 impl_FeeExact_j0 r r_1 wv_3 R)) ∧
 (true = false →
 ∃ (t26_p : Option Addr) (t26_n : Nat) (t26_c : Nat), Loads P 23 ((⟨r_1, 0, none⟩ : Addr).add 1) (.slice t26_p t26_n t26_c) wv_3 ∧ ((decide ((4 : Int) < ((t26_n : Nat) : Int))) = true →
 ∃ wv_11, Stores P 30 ⟨r_2, 0, none⟩ (.agg #[(.bool false), (.slice none 0 0), (.slice none 0 0)]) wv_3 wv_11 ∧
 ∃ (r0_1 : Bool) (r1_p_1 : Option Addr) (r1_n_1 : Nat) (r1_c_1 : Nat) (r2_p_1 : Option Addr) (r2_n_1 : Nat) (r2_c_1 : Nat), Loads P 30 ⟨r_2, 0, none⟩ (.agg #[(.bool r0_1), (.slice r1_p_1 r1_n_1 r1_c_1), (.slice r2_p_1 r2_n_1 r2_c_1)]) wv_11 ∧ R (.tuple #[(.agg #[(.bool r0_1), (.slice r1_p_1 r1_n_1 r1_c_1), (.slice r2_p_1 r2_n_1 r2_c_1)]), (.bool false)]) wv_11) ∧
 ((decide ((4 : Int) < ((t26_n : Nat) : Int))) = false →
 impl_FeeExact_j0 r r_1 wv_3 R))) ∧
 ((!t17) = false →
 ∃ (t200 : Bool) (t201_p : Option Addr) (t201_n : Nat) (t201_c : Nat), Loads P 28 ⟨r_1, 0, none⟩ (.agg #[(.bool t200), (.slice t201_p t201_n t201_c)]) wv_3 ∧ Calls P 33 ⟨[(.agg #[(.bool t200), (.slice t201_p t201_n t201_c)])]⟩ wv_3 fun e_3 wv_12 =>
 ∃ (t21 : Bool), e_3 = .returned (.bool t21) ∧
 ((!t21) = true →
 (true = true →
 ∃ wv_13, Stores P 30 ⟨r_2, 0, none⟩ (.agg #[(.bool false), (.slice none 0 0), (.slice none 0 0)]) wv_12 wv_13 ∧
 ∃ (r0_2 : Bool) (r1_p_2 : Option Addr) (r1_n_2 : Nat) (r1_c_2 : Nat) (r2_p_2 : Option Addr) (r2_n_2 : Nat) (r2_c_2 : Nat), Loads P 30 ⟨r_2, 0, none⟩ (.agg #[(.bool r0_2), (.slice r1_p_2 r1_n_2 r1_c_2), (.slice r2_p_2 r2_n_2 r2_c_2)]) wv_13 ∧ R (.tuple #[(.agg #[(.bool r0_2), (.slice r1_p_2 r1_n_2 r1_c_2), (.slice r2_p_2 r2_n_2 r2_c_2)]), (.bool false)]) wv_13) ∧
 (true = false →
 impl_FeeExact_j0 r r_1 wv_12 R)) ∧
 ((!t21) = false →
 ∃ (t26_p_1 : Option Addr) (t26_n_1 : Nat) (t26_c_1 : Nat), Loads P 23 ((⟨r_1, 0, none⟩ : Addr).add 1) (.slice t26_p_1 t26_n_1 t26_c_1) wv_12 ∧ ((decide ((4 : Int) < ((t26_n_1 : Nat) : Int))) = true →
 ∃ wv_14, Stores P 30 ⟨r_2, 0, none⟩ (.agg #[(.bool false), (.slice none 0 0), (.slice none 0 0)]) wv_12 wv_14 ∧
 ∃ (r0_3 : Bool) (r1_p_3 : Option Addr) (r1_n_3 : Nat) (r1_c_3 : Nat) (r2_p_3 : Option Addr) (r2_n_3 : Nat) (r2_c_3 : Nat), Loads P 30 ⟨r_2, 0, none⟩ (.agg #[(.bool r0_3), (.slice r1_p_3 r1_n_3 r1_c_3), (.slice r2_p_3 r2_n_3 r2_c_3)]) wv_14 ∧ R (.tuple #[(.agg #[(.bool r0_3), (.slice r1_p_3 r1_n_3 r1_c_3), (.slice r2_p_3 r2_n_3 r2_c_3)]), (.bool false)]) wv_14) ∧
 ((decide ((4 : Int) < ((t26_n_1 : Nat) : Int))) = false →
 impl_FeeExact_j0 r r_1 wv_12 R)))
theorem impl_FeeExact_ret {l_p : Option Addr} {l_n : Nat} {l_c : Nat} {units0 : Bool} {units1_p : Option Addr} {units1_n : Nat} {units1_c : Nat} {w : World} {R : Value → World → Prop} (h : impl_FeeExact l_p l_n l_c units0 units1_p units1_n units1_c w R) : Ret P 9 [(.slice l_p l_n l_c), (.agg #[(.bool units0), (.slice units1_p units1_n units1_c)])] w R :=
  Ret.of_fsem Tryz.func9 rfl (Eq.mp (show _ = fsem P Tryz.f9 (fun k => []) _ R w from by kernel_rfl) h)
def spec_StepsOk_j0 (l_p : Option Addr) (l_n : Nat) (W : World) (R : Value → World → Prop) : Prop :=
 ∃ (Inv : Int → World → Prop) (mu : Int → World → Nat), Inv 0 W ∧
 ∀ (junk : Fr) (wv_1 : World) (t18 : Int), Inv t18 wv_1 →
 ((decide ((t18 : Int) < ((l_n : Nat) : Int))) = true →
 (0 ≤ (t18 : Int) ∧ (t18 : Int) < (l_n : Nat)) ∧ ptrS l_p fun ad => ∃ (t220 : Int) (t221 : Bool) (t222_p : Option Addr) (t222_n : Nat) (t222_c : Nat) (t223 : Int), Loads P 60 (ad.add (t18.toNat * 4)) (.agg #[(.int .i64 t220), (.bool t221), (.slice t222_p t222_n t222_c), (.int .i64 t223)]) wv_1 ∧ ∀ (r : Nat) (wv_2 : World), New wv_1 (.cells ⟨[(.int .i64 0), (.bool false), (.slice none 0 0), (.int .i64 0)]⟩ 60 (0, 0)) r wv_2 →
 ∃ wv_3, Stores P 60 ⟨r, 0, none⟩ (.agg #[(.int .i64 t220), (.bool t221), (.slice t222_p t222_n t222_c), (.int .i64 t223)]) wv_2 wv_3 ∧
 ∃ (t24 : Int), (∀ wv_4, Ext wv_3.drew wv_4 → Loads P 3 ((⟨r, 0, none⟩ : Addr).add 0) (.int .i64 t24) wv_4) ∧ Calls P 48 ⟨[(.int .i64 t24), (.int .i64 0), (.int .i64 1000000000)]⟩ wv_3.drew fun e_1 wv_5 =>
 ∃ (t25 : Bool), e_1 = .returned (.bool t25) ∧
 ((!t25) = true →
 (true = true →
 (true = true →
 R (.bool false) wv_5) ∧
 (true = false →
 ∃ t48 : Int, t48 = IntKind.wrap .i64 (t18 + 1) ∧ Inv t48 wv_5 ∧ mu t48 wv_5 < mu t18 wv_1)) ∧
 (true = false →
 ((decide ((0 : Int) < t18)) = true →
 ∃ t39 : Int, t39 = IntKind.wrap .i64 (t18 - 1) ∧ (0 ≤ (t39 : Int) ∧ (t39 : Int) < (l_n : Nat)) ∧ ptrS l_p fun ad_1 => ∃ (t42 : Int), (∀ wv_6, Ext wv_5 wv_6 → Loads P 3 ((ad_1.add (t39.toNat * 4)).add 0) (.int .i64 t42) wv_6) ∧ ∃ (t44 : Int), (∀ wv_7, Ext wv_5 wv_7 → Loads P 3 ((⟨r, 0, none⟩ : Addr).add 0) (.int .i64 t44) wv_7) ∧ ((decide ((t44 : Int) ≤ t42)) = true →
 R (.bool false) wv_5) ∧
 ((decide ((t44 : Int) ≤ t42)) = false →
 ∃ t48_1 : Int, t48_1 = IntKind.wrap .i64 (t18 + 1) ∧ Inv t48_1 wv_5 ∧ mu t48_1 wv_5 < mu t18 wv_1)) ∧
 ((decide ((0 : Int) < t18)) = false →
 (false = true →
 R (.bool false) wv_5) ∧
 (false = false →
 ∃ t48_2 : Int, t48_2 = IntKind.wrap .i64 (t18 + 1) ∧ Inv t48_2 wv_5 ∧ mu t48_2 wv_5 < mu t18 wv_1)))) ∧
 ((!t25) = false →
 ∃ (t290 : Bool) (t291_p : Option Addr) (t291_n : Nat) (t291_c : Nat) (t292 : Int), (∀ wv_8, Ext wv_5 wv_8 → Loads P 58 ((⟨r, 0, none⟩ : Addr).add 1) (.agg #[(.bool t290), (.slice t291_p t291_n t291_c), (.int .i64 t292)]) wv_8) ∧ Calls P 49 ⟨[(.agg #[(.bool t290), (.slice t291_p t291_n t291_c), (.int .i64 t292)])]⟩ wv_5 fun e_2 wv_9 =>
 ∃ (t30 : Bool), e_2 = .returned (.bool t30) ∧
 ((!t30) = true →
 (true = true →
 R (.bool false) wv_9) ∧
 (true = false →
 ∃ t48_3 : Int, t48_3 = IntKind.wrap .i64 (t18 + 1) ∧ Inv t48_3 wv_9 ∧ mu t48_3 wv_9 < mu t18 wv_1)) ∧
 ((!t30) = false →
 ((decide ((0 : Int) < t18)) = true →
 ∃ t39_1 : Int, t39_1 = IntKind.wrap .i64 (t18 - 1) ∧ (0 ≤ (t39_1 : Int) ∧ (t39_1 : Int) < (l_n : Nat)) ∧ ptrS l_p fun ad_2 => ∃ (t42_1 : Int), (∀ wv_10, Ext wv_9 wv_10 → Loads P 3 ((ad_2.add (t39_1.toNat * 4)).add 0) (.int .i64 t42_1) wv_10) ∧ ∃ (t44_1 : Int), (∀ wv_11, Ext wv_9 wv_11 → Loads P 3 ((⟨r, 0, none⟩ : Addr).add 0) (.int .i64 t44_1) wv_11) ∧ ((decide ((t44_1 : Int) ≤ t42_1)) = true →
 R (.bool false) wv_9) ∧
 ((decide ((t44_1 : Int) ≤ t42_1)) = false →
 ∃ t48_4 : Int, t48_4 = IntKind.wrap .i64 (t18 + 1) ∧ Inv t48_4 wv_9 ∧ mu t48_4 wv_9 < mu t18 wv_1)) ∧
 ((decide ((0 : Int) < t18)) = false →
 (false = true →
 R (.bool false) wv_9) ∧
 (false = false →
 ∃ t48_5 : Int, t48_5 = IntKind.wrap .i64 (t18 + 1) ∧ Inv t48_5 wv_9 ∧ mu t48_5 wv_9 < mu t18 wv_1))))) ∧
 ((decide ((t18 : Int) < ((l_n : Nat) : Int))) = false →
 R (.bool true) wv_1)
def spec_StepsOk (l_p : Option Addr) (l_n : Nat) (l_c : Nat) (w : World) (R : Value → World → Prop) : Prop :=
 Calls P 48 ⟨[(.int .i64 ((l_n : Nat) : Int)), (.int .i64 1), (.int .i64 8)]⟩ w fun e wv =>
 ∃ (t7 : Bool), e = .returned (.bool t7) ∧
 ((!t7) = true →
 (true = true →
 R (.bool false) wv) ∧
 (true = false →
 spec_StepsOk_j0 l_p l_n wv R)) ∧
 ((!t7) = false →
 (0 ≤ (0 : Int) ∧ (0 : Int) < (l_n : Nat)) ∧ ptrS l_p fun ad_3 => ∃ (t13 : Int), Loads P 3 ((ad_3.add (0 * 4)).add 0) (.int .i64 t13) wv ∧ ((decide ((t13 : Int) ≠ 0)) = true →
 R (.bool false) wv) ∧
 ((decide ((t13 : Int) ≠ 0)) = false →
 spec_StepsOk_j0 l_p l_n wv R))
theorem spec_StepsOk_ret {l_p : Option Addr} {l_n : Nat} {l_c : Nat} {w : World} {R : Value → World → Prop} (h : spec_StepsOk l_p l_n l_c w R) : Ret P 19 [(.slice l_p l_n l_c)] w R :=
  Ret.of_fsem Tryz.func19 rfl (Eq.mp (show _ = fsem P Tryz.f19 (fun k => cond (Nat.beq k 5) [(18, .one (.int .i64))] ([])) _ R w from by kernel_rfl) h)
def spec_IntOk (x0 : Bool) (x1_p : Option Addr) (x1_n : Nat) (x1_c : Nat) (w : World) (R : Value → World → Prop) : Prop :=
 ∀ (r : Nat) (wv : World), New w (.cells ⟨[(.bool x0), (.slice x1_p x1_n x1_c)]⟩ 28 (0, 0)) r wv →
 ∃ (t4_p : Option Addr) (t4_n : Nat) (t4_c : Nat), Loads P 23 ((⟨r, 0, none⟩ : Addr).add 1) (.slice t4_p t4_n t4_c) wv ∧ Calls P 50 ⟨[(.slice t4_p t4_n t4_c)]⟩ wv fun e wv_1 =>
 ∃ (t5 : Bool), e = .returned (.bool t5) ∧
 (t5 = true →
 ∃ (t8 : Bool), Loads P 4 ((⟨r, 0, none⟩ : Addr).add 0) (.bool t8) wv_1 ∧ ((!t8) = true →
 R (.bool true) wv_1) ∧
 ((!t8) = false →
 ∃ (t12_p : Option Addr) (t12_n : Nat) (t12_c : Nat), Loads P 23 ((⟨r, 0, none⟩ : Addr).add 1) (.slice t12_p t12_n t12_c) wv_1 ∧ R (.bool (decide ((0 : Int) < ((t12_n : Nat) : Int)))) wv_1)) ∧
 (t5 = false →
 R (.bool false) wv_1)
theorem spec_IntOk_ret {x0 : Bool} {x1_p : Option Addr} {x1_n : Nat} {x1_c : Nat} {w : World} {R : Value → World → Prop} (h : spec_IntOk x0 x1_p x1_n x1_c w R) : Ret P 20 [(.agg #[(.bool x0), (.slice x1_p x1_n x1_c)])] w R :=
  Ret.of_fsem Tryz.func20 rfl (Eq.mp (show _ = fsem P Tryz.f20 (fun k => []) _ R w from by kernel_rfl) h)
def spec_RatZero (w : World) (R : Value → World → Prop) : Prop :=
 ∀ (r : Nat) (wv : World), New w (.cells ⟨[(.bool false), (.slice none 0 0), (.slice none 0 0)]⟩ 30 (0, 0)) r wv →
 ∀ (r_1 : Nat) (wv_1 : World), New wv (.cells ⟨[(.int .i64 1)]⟩ 3 (0, 0)) r_1 wv_1 →
 ∃ wv_2, Stores P 30 ⟨r, 0, none⟩ (.agg #[(.bool false), (.slice none 0 0), (.slice (some ⟨r_1, 0, none⟩) 1 1)]) wv_1 wv_2 ∧
 ∃ (r0 : Bool) (r1_p : Option Addr) (r1_n : Nat) (r1_c : Nat) (r2_p : Option Addr) (r2_n : Nat) (r2_c : Nat), Loads P 30 ⟨r, 0, none⟩ (.agg #[(.bool r0), (.slice r1_p r1_n r1_c), (.slice r2_p r2_n r2_c)]) wv_2 ∧ R (.agg #[(.bool r0), (.slice r1_p r1_n r1_c), (.slice r2_p r2_n r2_c)]) wv_2
theorem spec_RatZero_ret {w : World} {R : Value → World → Prop} (h : spec_RatZero w R) : Ret P 21 [] w R :=
  Ret.of_fsem Tryz.func21 rfl (Eq.mp (show _ = fsem P Tryz.f21 (fun k => []) _ R w from by kernel_rfl) h)
def spec_IntAbs (x0 : Bool) (x1_p : Option Addr) (x1_n : Nat) (x1_c : Nat) (w : World) (R : Value → World → Prop) : Prop :=
 ∀ (r : Nat) (wv : World), New w (.cells ⟨[(.bool x0), (.slice x1_p x1_n x1_c)]⟩ 28 (0, 0)) r wv →
 ∀ (r_1 : Nat) (wv_1 : World), New wv (.cells ⟨[(.bool false), (.slice none 0 0)]⟩ 28 (0, 0)) r_1 wv_1 →
 ∃ (t30 : Bool) (t31_p : Option Addr) (t31_n : Nat) (t31_c : Nat), Loads P 28 ⟨r, 0, none⟩ (.agg #[(.bool t30), (.slice t31_p t31_n t31_c)]) wv_1 ∧ Calls P 20 ⟨[(.agg #[(.bool t30), (.slice t31_p t31_n t31_c)])]⟩ wv_1 fun e wv_2 =>
 ∃ (t4 : Bool), e = .returned (.bool t4) ∧
 ((!t4) = true →
 ∃ wv_3, Stores P 28 ⟨r_1, 0, none⟩ (.agg #[(.bool false), (.slice none 0 0)]) wv_2 wv_3 ∧
 ∃ (r0 : Bool) (r1_p : Option Addr) (r1_n : Nat) (r1_c : Nat), Loads P 28 ⟨r_1, 0, none⟩ (.agg #[(.bool r0), (.slice r1_p r1_n r1_c)]) wv_3 ∧ R (.agg #[(.bool r0), (.slice r1_p r1_n r1_c)]) wv_3) ∧
 ((!t4) = false →
 ∃ (t8_p : Option Addr) (t8_n : Nat) (t8_c : Nat), Loads P 23 ((⟨r, 0, none⟩ : Addr).add 1) (.slice t8_p t8_n t8_c) wv_2 ∧ Calls P 51 ⟨[(.bool false), (.slice t8_p t8_n t8_c)]⟩ wv_2 fun e_1 wv_4 =>
 ∃ (t90 : Bool) (t91_p : Option Addr) (t91_n : Nat) (t91_c : Nat), e_1 = .returned (.agg #[(.bool t90), (.slice t91_p t91_n t91_c)]) ∧
 ∃ wv_5, Stores P 28 ⟨r_1, 0, none⟩ (.agg #[(.bool t90), (.slice t91_p t91_n t91_c)]) wv_4 wv_5 ∧
 ∃ (r0_1 : Bool) (r1_p_1 : Option Addr) (r1_n_1 : Nat) (r1_c_1 : Nat), Loads P 28 ⟨r_1, 0, none⟩ (.agg #[(.bool r0_1), (.slice r1_p_1 r1_n_1 r1_c_1)]) wv_5 ∧ R (.agg #[(.bool r0_1), (.slice r1_p_1 r1_n_1 r1_c_1)]) wv_5)
theorem spec_IntAbs_ret {x0 : Bool} {x1_p : Option Addr} {x1_n : Nat} {x1_c : Nat} {w : World} {R : Value → World → Prop} (h : spec_IntAbs x0 x1_p x1_n x1_c w R) : Ret P 22 [(.agg #[(.bool x0), (.slice x1_p x1_n x1_c)])] w R :=
  Ret.of_fsem Tryz.func22 rfl (Eq.mp (show _ = fsem P Tryz.f22 (fun k => []) _ R w from by kernel_rfl) h)
def spec_StepAt_j0 (l_p : Option Addr) (l_n : Nat) (r : Nat) (W : World) (R : Value → World → Prop) : Prop :=
 ∃ t16 : Int, t16 = IntKind.wrap .i64 (((l_n : Nat) : Int) - 1) ∧ ∃ (Inv : Int → World → Prop) (mu : Int → World → Nat), Inv t16 W ∧
 ∀ (junk : Fr) (wv_2 : World) (k : Int), Inv k wv_2 →
 (0 ≤ (k : Int) ∧ (k : Int) < (l_n : Nat)) ∧ ptrS l_p fun ad => ∃ (t21 : Int), (∀ wv_3, Ext wv_2.drew wv_3 → Loads P 3 ((ad.add (k.toNat * 4)).add 0) (.int .i64 t21) wv_3) ∧ Calls P 26 ⟨[(.int .i64 t21)]⟩ wv_2.drew fun e_1 wv_4 =>
 ∃ (t220 : Bool) (t221_p : Option Addr) (t221_n : Nat) (t221_c : Nat), e_1 = .returned (.agg #[(.bool t220), (.slice t221_p t221_n t221_c)]) ∧
 Ext wv_2.drew wv_4 ∧ ∃ (t230 : Bool) (t231_p : Option Addr) (t231_n : Nat) (t231_c : Nat), (∀ wv_5, Ext wv_2.drew wv_5 → Loads P 28 ⟨r, 0, none⟩ (.agg #[(.bool t230), (.slice t231_p t231_n t231_c)]) wv_5) ∧ Calls P 22 ⟨[(.agg #[(.bool t230), (.slice t231_p t231_n t231_c)])]⟩ wv_4 fun e_2 wv_6 =>
 ∃ (t240 : Bool) (t241_p : Option Addr) (t241_n : Nat) (t241_c : Nat), e_2 = .returned (.agg #[(.bool t240), (.slice t241_p t241_n t241_c)]) ∧
 Calls P 52 ⟨[(.agg #[(.bool t220), (.slice t221_p t221_n t221_c)]), (.agg #[(.bool t240), (.slice t241_p t241_n t241_c)])]⟩ wv_6 fun e_3 wv_7 =>
 ∃ (t25 : Int), e_3 = .returned (.int .i64 t25) ∧
 ((decide ((0 : Int) < t25)) = true →
 ∃ t28 : Int, t28 = IntKind.wrap .i64 (k - 1) ∧ Inv t28 wv_7 ∧ mu t28 wv_7 < mu k wv_2) ∧
 ((decide ((0 : Int) < t25)) = false →
 R (.int .i64 k) wv_7)
def spec_StepAt (l_p : Option Addr) (l_n : Nat) (l_c : Nat) (units0 : Bool) (units1_p : Option Addr) (units1_n : Nat) (units1_c : Nat) (w : World) (R : Value → World → Prop) : Prop :=
 ∀ (r : Nat) (wv : World), New w (.cells ⟨[(.bool units0), (.slice units1_p units1_n units1_c)]⟩ 28 (0, 0)) r wv →
 Calls P 19 ⟨[(.slice l_p l_n l_c)]⟩ wv fun e wv_1 =>
 ∃ (t7 : Bool), e = .returned (.bool t7) ∧
 ((!t7) = true →
 (true = true →
 R (.int .i64 (-1)) wv_1) ∧
 (true = false →
 spec_StepAt_j0 l_p l_n r wv_1 R)) ∧
 ((!t7) = false →
 ∃ (t100 : Bool) (t101_p : Option Addr) (t101_n : Nat) (t101_c : Nat), Loads P 28 ⟨r, 0, none⟩ (.agg #[(.bool t100), (.slice t101_p t101_n t101_c)]) wv_1 ∧ Calls P 20 ⟨[(.agg #[(.bool t100), (.slice t101_p t101_n t101_c)])]⟩ wv_1 fun e_4 wv_8 =>
 ∃ (t11 : Bool), e_4 = .returned (.bool t11) ∧
 ((!t11) = true →
 R (.int .i64 (-1)) wv_8) ∧
 ((!t11) = false →
 spec_StepAt_j0 l_p l_n r wv_8 R))
theorem spec_StepAt_ret {l_p : Option Addr} {l_n : Nat} {l_c : Nat} {units0 : Bool} {units1_p : Option Addr} {units1_n : Nat} {units1_c : Nat} {w : World} {R : Value → World → Prop} (h : spec_StepAt l_p l_n l_c units0 units1_p units1_n units1_c w R) : Ret P 23 [(.slice l_p l_n l_c), (.agg #[(.bool units0), (.slice units1_p units1_n units1_c)])] w R :=
  Ret.of_fsem Tryz.func23 rfl (Eq.mp (show _ = fsem P Tryz.f23 (fun k => cond (Nat.beq k 5) [(5, .one (.int .i64))] ([])) _ R w from by kernel_rfl) h)
def spec_RatInt (x0 : Bool) (x1_p : Option Addr) (x1_n : Nat) (x1_c : Nat) (w : World) (R : Value → World → Prop) : Prop :=
 ∀ (r : Nat) (wv : World), New w (.cells ⟨[(.bool x0), (.slice x1_p x1_n x1_c)]⟩ 28 (0, 0)) r wv →
 ∀ (r_1 : Nat) (wv_1 : World), New wv (.cells ⟨[(.bool false), (.slice none 0 0), (.slice none 0 0)]⟩ 30 (0, 0)) r_1 wv_1 →
 ∃ (t40 : Bool) (t41_p : Option Addr) (t41_n : Nat) (t41_c : Nat), (∀ wv_2, Ext wv_1.drew wv_2 → Loads P 28 ⟨r, 0, none⟩ (.agg #[(.bool t40), (.slice t41_p t41_n t41_c)]) wv_2) ∧ Calls P 26 ⟨[(.int .i64 1)]⟩ wv_1.drew fun e wv_3 =>
 ∃ (t50 : Bool) (t51_p : Option Addr) (t51_n : Nat) (t51_c : Nat), e = .returned (.agg #[(.bool t50), (.slice t51_p t51_n t51_c)]) ∧
 Ext wv_1.drew wv_3 ∧ Calls P 53 ⟨[(.agg #[(.bool t40), (.slice t41_p t41_n t41_c)]), (.agg #[(.bool t50), (.slice t51_p t51_n t51_c)])]⟩ wv_3 fun e_1 wv_4 =>
 ∃ (t60 : Bool) (t61_p : Option Addr) (t61_n : Nat) (t61_c : Nat) (t62_p : Option Addr) (t62_n : Nat) (t62_c : Nat) (t6 : Bool), e_1 = .returned (.tuple #[(.agg #[(.bool t60), (.slice t61_p t61_n t61_c), (.slice t62_p t62_n t62_c)]), (.bool t6)]) ∧
 ∃ wv_5, Stores P 30 ⟨r_1, 0, none⟩ (.agg #[(.bool t60), (.slice t61_p t61_n t61_c), (.slice t62_p t62_n t62_c)]) wv_4 wv_5 ∧
 ∃ (r0 : Bool) (r1_p : Option Addr) (r1_n : Nat) (r1_c : Nat) (r2_p : Option Addr) (r2_n : Nat) (r2_c : Nat), Loads P 30 ⟨r_1, 0, none⟩ (.agg #[(.bool r0), (.slice r1_p r1_n r1_c), (.slice r2_p r2_n r2_c)]) wv_5 ∧ R (.tuple #[(.agg #[(.bool r0), (.slice r1_p r1_n r1_c), (.slice r2_p r2_n r2_c)]), (.bool t6)]) wv_5
theorem spec_RatInt_ret {x0 : Bool} {x1_p : Option Addr} {x1_n : Nat} {x1_c : Nat} {w : World} {R : Value → World → Prop} (h : spec_RatInt x0 x1_p x1_n x1_c w R) : Ret P 24 [(.agg #[(.bool x0), (.slice x1_p x1_n x1_c)])] w R :=
  Ret.of_fsem Tryz.func24 rfl (Eq.mp (show _ = fsem P Tryz.f24 (fun k => []) _ R w from by kernel_rfl) h)
def spec_IntSub (x0 : Bool) (x1_p : Option Addr) (x1_n : Nat) (x1_c : Nat) (y0 : Bool) (y1_p : Option Addr) (y1_n : Nat) (y1_c : Nat) (w : World) (R : Value → World → Prop) : Prop :=
 ∀ (r : Nat) (wv : World), New w (.cells ⟨[(.bool x0), (.slice x1_p x1_n x1_c)]⟩ 28 (0, 0)) r wv →
 ∀ (r_1 : Nat) (wv_1 : World), New wv (.cells ⟨[(.bool y0), (.slice y1_p y1_n y1_c)]⟩ 28 (0, 0)) r_1 wv_1 →
 ∀ (r_2 : Nat) (wv_2 : World), New wv_1 (.cells ⟨[(.bool false), (.slice none 0 0)]⟩ 28 (0, 0)) r_2 wv_2 →
 ∃ (t50 : Bool) (t51_p : Option Addr) (t51_n : Nat) (t51_c : Nat), Loads P 28 ⟨r, 0, none⟩ (.agg #[(.bool t50), (.slice t51_p t51_n t51_c)]) wv_2 ∧ Calls P 20 ⟨[(.agg #[(.bool t50), (.slice t51_p t51_n t51_c)])]⟩ wv_2 fun e wv_3 =>
 ∃ (t6 : Bool), e = .returned (.bool t6) ∧
 ((!t6) = true →
 (true = true →
 ∃ wv_4, Stores P 28 ⟨r_2, 0, none⟩ (.agg #[(.bool false), (.slice none 0 0)]) wv_3 wv_4 ∧
 ∃ (r0 : Bool) (r1_p : Option Addr) (r1_n : Nat) (r1_c : Nat), Loads P 28 ⟨r_2, 0, none⟩ (.agg #[(.bool r0), (.slice r1_p r1_n r1_c)]) wv_4 ∧ R (.agg #[(.bool r0), (.slice r1_p r1_n r1_c)]) wv_4) ∧
 (true = false →
 ∃ (t140 : Bool) (t141_p : Option Addr) (t141_n : Nat) (t141_c : Nat), (∀ wv_5, Ext wv_3.drew wv_5 → Loads P 28 ⟨r, 0, none⟩ (.agg #[(.bool t140), (.slice t141_p t141_n t141_c)]) wv_5) ∧ ∃ (t150 : Bool) (t151_p : Option Addr) (t151_n : Nat) (t151_c : Nat), (∀ wv_6, Ext wv_3.drew wv_6 → Loads P 28 ⟨r_1, 0, none⟩ (.agg #[(.bool t150), (.slice t151_p t151_n t151_c)]) wv_6) ∧ Calls P 55 ⟨[(.agg #[(.bool t150), (.slice t151_p t151_n t151_c)])]⟩ wv_3.drew fun e_1 wv_7 =>
 ∃ (t160 : Bool) (t161_p : Option Addr) (t161_n : Nat) (t161_c : Nat), e_1 = .returned (.agg #[(.bool t160), (.slice t161_p t161_n t161_c)]) ∧
 Ext wv_3.drew wv_7 ∧ Calls P 54 ⟨[(.agg #[(.bool t140), (.slice t141_p t141_n t141_c)]), (.agg #[(.bool t160), (.slice t161_p t161_n t161_c)])]⟩ wv_7 fun e_2 wv_8 =>
 ∃ (t170 : Bool) (t171_p : Option Addr) (t171_n : Nat) (t171_c : Nat), e_2 = .returned (.agg #[(.bool t170), (.slice t171_p t171_n t171_c)]) ∧
 ∃ wv_9, Stores P 28 ⟨r_2, 0, none⟩ (.agg #[(.bool t170), (.slice t171_p t171_n t171_c)]) wv_8 wv_9 ∧
 ∃ (r0_1 : Bool) (r1_p_1 : Option Addr) (r1_n_1 : Nat) (r1_c_1 : Nat), Loads P 28 ⟨r_2, 0, none⟩ (.agg #[(.bool r0_1), (.slice r1_p_1 r1_n_1 r1_c_1)]) wv_9 ∧ R (.agg #[(.bool r0_1), (.slice r1_p_1 r1_n_1 r1_c_1)]) wv_9)) ∧
 ((!t6) = false →
 ∃ (t90 : Bool) (t91_p : Option Addr) (t91_n : Nat) (t91_c : Nat), Loads P 28 ⟨r_1, 0, none⟩ (.agg #[(.bool t90), (.slice t91_p t91_n t91_c)]) wv_3 ∧ Calls P 20 ⟨[(.agg #[(.bool t90), (.slice t91_p t91_n t91_c)])]⟩ wv_3 fun e_3 wv_10 =>
 ∃ (t10 : Bool), e_3 = .returned (.bool t10) ∧
 ((!t10) = true →
 ∃ wv_11, Stores P 28 ⟨r_2, 0, none⟩ (.agg #[(.bool false), (.slice none 0 0)]) wv_10 wv_11 ∧
 ∃ (r0_2 : Bool) (r1_p_2 : Option Addr) (r1_n_2 : Nat) (r1_c_2 : Nat), Loads P 28 ⟨r_2, 0, none⟩ (.agg #[(.bool r0_2), (.slice r1_p_2 r1_n_2 r1_c_2)]) wv_11 ∧ R (.agg #[(.bool r0_2), (.slice r1_p_2 r1_n_2 r1_c_2)]) wv_11) ∧
 ((!t10) = false →
 ∃ (t140_1 : Bool) (t141_p_1 : Option Addr) (t141_n_1 : Nat) (t141_c_1 : Nat), (∀ wv_12, Ext wv_10.drew wv_12 → Loads P 28 ⟨r, 0, none⟩ (.agg #[(.bool t140_1), (.slice t141_p_1 t141_n_1 t141_c_1)]) wv_12) ∧ ∃ (t150_1 : Bool) (t151_p_1 : Option Addr) (t151_n_1 : Nat) (t151_c_1 : Nat), (∀ wv_13, Ext wv_10.drew wv_13 → Loads P 28 ⟨r_1, 0, none⟩ (.agg #[(.bool t150_1), (.slice t151_p_1 t151_n_1 t151_c_1)]) wv_13) ∧ Calls P 55 ⟨[(.agg #[(.bool t150_1), (.slice t151_p_1 t151_n_1 t151_c_1)])]⟩ wv_10.drew fun e_4 wv_14 =>
 ∃ (t160_1 : Bool) (t161_p_1 : Option Addr) (t161_n_1 : Nat) (t161_c_1 : Nat), e_4 = .returned (.agg #[(.bool t160_1), (.slice t161_p_1 t161_n_1 t161_c_1)]) ∧
 Ext wv_10.drew wv_14 ∧ Calls P 54 ⟨[(.agg #[(.bool t140_1), (.slice t141_p_1 t141_n_1 t141_c_1)]), (.agg #[(.bool t160_1), (.slice t161_p_1 t161_n_1 t161_c_1)])]⟩ wv_14 fun e_5 wv_15 =>
 ∃ (t170_1 : Bool) (t171_p_1 : Option Addr) (t171_n_1 : Nat) (t171_c_1 : Nat), e_5 = .returned (.agg #[(.bool t170_1), (.slice t171_p_1 t171_n_1 t171_c_1)]) ∧
 ∃ wv_16, Stores P 28 ⟨r_2, 0, none⟩ (.agg #[(.bool t170_1), (.slice t171_p_1 t171_n_1 t171_c_1)]) wv_15 wv_16 ∧
 ∃ (r0_3 : Bool) (r1_p_3 : Option Addr) (r1_n_3 : Nat) (r1_c_3 : Nat), Loads P 28 ⟨r_2, 0, none⟩ (.agg #[(.bool r0_3), (.slice r1_p_3 r1_n_3 r1_c_3)]) wv_16 ∧ R (.agg #[(.bool r0_3), (.slice r1_p_3 r1_n_3 r1_c_3)]) wv_16))
theorem spec_IntSub_ret {x0 : Bool} {x1_p : Option Addr} {x1_n : Nat} {x1_c : Nat} {y0 : Bool} {y1_p : Option Addr} {y1_n : Nat} {y1_c : Nat} {w : World} {R : Value → World → Prop} (h : spec_IntSub x0 x1_p x1_n x1_c y0 y1_p y1_n y1_c w R) : Ret P 25 [(.agg #[(.bool x0), (.slice x1_p x1_n x1_c)]), (.agg #[(.bool y0), (.slice y1_p y1_n y1_c)])] w R :=
  Ret.of_fsem Tryz.func25 rfl (Eq.mp (show _ = fsem P Tryz.f25 (fun k => []) _ R w from by kernel_rfl) h)
def spec_IntOf (n : Int) (w : World) (R : Value → World → Prop) : Prop :=
 ∀ (r : Nat) (wv : World), New w (.cells ⟨[(.bool false), (.slice none 0 0)]⟩ 28 (0, 0)) r wv →
 ((decide ((n : Int) = (-9223372036854775808))) = true →
 ∀ (r_1 : Nat) (wv_1 : World), New wv (.cells ⟨[(.int .i64 854775808), (.int .i64 223372036), (.int .i64 9)]⟩ 3 (0, 0)) r_1 wv_1 →
 Calls P 51 ⟨[(.bool true), (.slice (some ⟨r_1, 0, none⟩) 3 3)]⟩ wv_1 fun e wv_2 =>
 ∃ (t60 : Bool) (t61_p : Option Addr) (t61_n : Nat) (t61_c : Nat), e = .returned (.agg #[(.bool t60), (.slice t61_p t61_n t61_c)]) ∧
 ∃ wv_3, Stores P 28 ⟨r, 0, none⟩ (.agg #[(.bool t60), (.slice t61_p t61_n t61_c)]) wv_2 wv_3 ∧
 ∃ (r0 : Bool) (r1_p : Option Addr) (r1_n : Nat) (r1_c : Nat), Loads P 28 ⟨r, 0, none⟩ (.agg #[(.bool r0), (.slice r1_p r1_n r1_c)]) wv_3 ∧ R (.agg #[(.bool r0), (.slice r1_p r1_n r1_c)]) wv_3) ∧
 ((decide ((n : Int) = (-9223372036854775808))) = false →
 ((decide ((n : Int) < 0)) = true →
 ∃ t10 : Int, t10 = IntKind.wrap .i64 (0 - n) ∧ Calls P 56 ⟨[(.int .i64 t10)]⟩ wv fun e_1 wv_4 =>
 ∃ (t11_p : Option Addr) (t11_n : Nat) (t11_c : Nat), e_1 = .returned (.slice t11_p t11_n t11_c) ∧
 Calls P 51 ⟨[(.bool true), (.slice t11_p t11_n t11_c)]⟩ wv_4 fun e_2 wv_5 =>
 ∃ (t120 : Bool) (t121_p : Option Addr) (t121_n : Nat) (t121_c : Nat), e_2 = .returned (.agg #[(.bool t120), (.slice t121_p t121_n t121_c)]) ∧
 ∃ wv_6, Stores P 28 ⟨r, 0, none⟩ (.agg #[(.bool t120), (.slice t121_p t121_n t121_c)]) wv_5 wv_6 ∧
 ∃ (r0_1 : Bool) (r1_p_1 : Option Addr) (r1_n_1 : Nat) (r1_c_1 : Nat), Loads P 28 ⟨r, 0, none⟩ (.agg #[(.bool r0_1), (.slice r1_p_1 r1_n_1 r1_c_1)]) wv_6 ∧ R (.agg #[(.bool r0_1), (.slice r1_p_1 r1_n_1 r1_c_1)]) wv_6) ∧
 ((decide ((n : Int) < 0)) = false →
 Calls P 56 ⟨[(.int .i64 n)]⟩ wv fun e_3 wv_7 =>
 ∃ (t14_p : Option Addr) (t14_n : Nat) (t14_c : Nat), e_3 = .returned (.slice t14_p t14_n t14_c) ∧
 Calls P 51 ⟨[(.bool false), (.slice t14_p t14_n t14_c)]⟩ wv_7 fun e_4 wv_8 =>
 ∃ (t150 : Bool) (t151_p : Option Addr) (t151_n : Nat) (t151_c : Nat), e_4 = .returned (.agg #[(.bool t150), (.slice t151_p t151_n t151_c)]) ∧
 ∃ wv_9, Stores P 28 ⟨r, 0, none⟩ (.agg #[(.bool t150), (.slice t151_p t151_n t151_c)]) wv_8 wv_9 ∧
 ∃ (r0_2 : Bool) (r1_p_2 : Option Addr) (r1_n_2 : Nat) (r1_c_2 : Nat), Loads P 28 ⟨r, 0, none⟩ (.agg #[(.bool r0_2), (.slice r1_p_2 r1_n_2 r1_c_2)]) wv_9 ∧ R (.agg #[(.bool r0_2), (.slice r1_p_2 r1_n_2 r1_c_2)]) wv_9))
theorem spec_IntOf_ret {n : Int} {w : World} {R : Value → World → Prop} (h : spec_IntOf n w R) : Ret P 26 [(.int .i64 n)] w R :=
  Ret.of_fsem Tryz.func26 rfl (Eq.mp (show _ = fsem P Tryz.f26 (fun k => []) _ R w from by kernel_rfl) h)
def spec_RatMul_j0 (r : Nat) (r_1 : Nat) (r_2 : Nat) (W : World) (R : Value → World → Prop) : Prop :=
 ∃ (t17 : Bool), (∀ wv_5, Ext W.drew wv_5 → Loads P 4 (((⟨r, 0, none⟩ : Addr).add 0).add 0) (.bool t17) wv_5) ∧ ∃ (t20 : Bool), (∀ wv_6, Ext W.drew wv_6 → Loads P 4 (((⟨r_1, 0, none⟩ : Addr).add 0).add 0) (.bool t20) wv_6) ∧ ∃ (t24_p : Option Addr) (t24_n : Nat) (t24_c : Nat), (∀ wv_7, Ext W.drew wv_7 → Loads P 23 (((⟨r, 0, none⟩ : Addr).add 0).add 1) (.slice t24_p t24_n t24_c) wv_7) ∧ ∃ (t27_p : Option Addr) (t27_n : Nat) (t27_c : Nat), (∀ wv_8, Ext W.drew wv_8 → Loads P 23 (((⟨r_1, 0, none⟩ : Addr).add 0).add 1) (.slice t27_p t27_n t27_c) wv_8) ∧ Calls P 59 ⟨[(.slice t24_p t24_n t24_c), (.slice t27_p t27_n t27_c)]⟩ W.drew fun e_1 wv_9 =>
 ∃ (t28_p : Option Addr) (t28_n : Nat) (t28_c : Nat), e_1 = .returned (.slice t28_p t28_n t28_c) ∧
 Ext W.drew wv_9 ∧ ∃ (t30_p : Option Addr) (t30_n : Nat) (t30_c : Nat), (∀ wv_10, Ext W.drew wv_10 → Loads P 23 ((⟨r, 0, none⟩ : Addr).add 2) (.slice t30_p t30_n t30_c) wv_10) ∧ ∃ (t32_p : Option Addr) (t32_n : Nat) (t32_c : Nat), (∀ wv_11, Ext W.drew wv_11 → Loads P 23 ((⟨r_1, 0, none⟩ : Addr).add 2) (.slice t32_p t32_n t32_c) wv_11) ∧ Calls P 59 ⟨[(.slice t30_p t30_n t30_c), (.slice t32_p t32_n t32_c)]⟩ wv_9 fun e_2 wv_12 =>
 ∃ (t33_p : Option Addr) (t33_n : Nat) (t33_c : Nat), e_2 = .returned (.slice t33_p t33_n t33_c) ∧
 Ext wv_9 wv_12 ∧ Calls P 58 ⟨[(.bool (!(t17 == t20))), (.slice t28_p t28_n t28_c), (.slice t33_p t33_n t33_c)]⟩ wv_12 fun e_3 wv_13 =>
 ∃ (t340 : Bool) (t341_p : Option Addr) (t341_n : Nat) (t341_c : Nat) (t342_p : Option Addr) (t342_n : Nat) (t342_c : Nat) (t34 : Bool), e_3 = .returned (.tuple #[(.agg #[(.bool t340), (.slice t341_p t341_n t341_c), (.slice t342_p t342_n t342_c)]), (.bool t34)]) ∧
 ∃ wv_14, Stores P 30 ⟨r_2, 0, none⟩ (.agg #[(.bool t340), (.slice t341_p t341_n t341_c), (.slice t342_p t342_n t342_c)]) wv_13 wv_14 ∧
 ∃ (r0_2 : Bool) (r1_p_2 : Option Addr) (r1_n_2 : Nat) (r1_c_2 : Nat) (r2_p_2 : Option Addr) (r2_n_2 : Nat) (r2_c_2 : Nat), Loads P 30 ⟨r_2, 0, none⟩ (.agg #[(.bool r0_2), (.slice r1_p_2 r1_n_2 r1_c_2), (.slice r2_p_2 r2_n_2 r2_c_2)]) wv_14 ∧ R (.tuple #[(.agg #[(.bool r0_2), (.slice r1_p_2 r1_n_2 r1_c_2), (.slice r2_p_2 r2_n_2 r2_c_2)]), (.bool t34)]) wv_14
def spec_RatMul (r0 : Bool) (r1_p : Option Addr) (r1_n : Nat) (r1_c : Nat) (r2_p : Option Addr) (r2_n : Nat) (r2_c : Nat) (s0 : Bool) (s1_p : Option Addr) (s1_n : Nat) (s1_c : Nat) (s2_p : Option Addr) (s2_n : Nat) (s2_c : Nat) (w : World) (R : Value → World → Prop) : Prop :=
 ∀ (r : Nat) (wv : World), New w (.cells ⟨[(.bool r0), (.slice r1_p r1_n r1_c), (.slice r2_p r2_n r2_c)]⟩ 30 (0, 0)) r wv →
 ∀ (r_1 : Nat) (wv_1 : World), New wv (.cells ⟨[(.bool s0), (.slice s1_p s1_n s1_c), (.slice s2_p s2_n s2_c)]⟩ 30 (0, 0)) r_1 wv_1 →
 ∀ (r_2 : Nat) (wv_2 : World), New wv_1 (.cells ⟨[(.bool false), (.slice none 0 0), (.slice none 0 0)]⟩ 30 (0, 0)) r_2 wv_2 →
 ∃ (t60 : Bool) (t61_p : Option Addr) (t61_n : Nat) (t61_c : Nat) (t62_p : Option Addr) (t62_n : Nat) (t62_c : Nat), Loads P 30 ⟨r, 0, none⟩ (.agg #[(.bool t60), (.slice t61_p t61_n t61_c), (.slice t62_p t62_n t62_c)]) wv_2 ∧ Calls P 57 ⟨[(.agg #[(.bool t60), (.slice t61_p t61_n t61_c), (.slice t62_p t62_n t62_c)])]⟩ wv_2 fun e wv_3 =>
 ∃ (t7 : Bool), e = .returned (.bool t7) ∧
 ((!t7) = true →
 (true = true →
 ∃ wv_4, Stores P 30 ⟨r_2, 0, none⟩ (.agg #[(.bool false), (.slice none 0 0), (.slice none 0 0)]) wv_3 wv_4 ∧
 ∃ (r0_1 : Bool) (r1_p_1 : Option Addr) (r1_n_1 : Nat) (r1_c_1 : Nat) (r2_p_1 : Option Addr) (r2_n_1 : Nat) (r2_c_1 : Nat), Loads P 30 ⟨r_2, 0, none⟩ (.agg #[(.bool r0_1), (.slice r1_p_1 r1_n_1 r1_c_1), (.slice r2_p_1 r2_n_1 r2_c_1)]) wv_4 ∧ R (.tuple #[(.agg #[(.bool r0_1), (.slice r1_p_1 r1_n_1 r1_c_1), (.slice r2_p_1 r2_n_1 r2_c_1)]), (.bool false)]) wv_4) ∧
 (true = false →
 spec_RatMul_j0 r r_1 r_2 wv_3 R)) ∧
 ((!t7) = false →
 ∃ (t100 : Bool) (t101_p : Option Addr) (t101_n : Nat) (t101_c : Nat) (t102_p : Option Addr) (t102_n : Nat) (t102_c : Nat), Loads P 30 ⟨r_1, 0, none⟩ (.agg #[(.bool t100), (.slice t101_p t101_n t101_c), (.slice t102_p t102_n t102_c)]) wv_3 ∧ Calls P 57 ⟨[(.agg #[(.bool t100), (.slice t101_p t101_n t101_c), (.slice t102_p t102_n t102_c)])]⟩ wv_3 fun e_4 wv_15 =>
 ∃ (t11 : Bool), e_4 = .returned (.bool t11) ∧
 ((!t11) = true →
 ∃ wv_16, Stores P 30 ⟨r_2, 0, none⟩ (.agg #[(.bool false), (.slice none 0 0), (.slice none 0 0)]) wv_15 wv_16 ∧
 ∃ (r0_3 : Bool) (r1_p_3 : Option Addr) (r1_n_3 : Nat) (r1_c_3 : Nat) (r2_p_3 : Option Addr) (r2_n_3 : Nat) (r2_c_3 : Nat), Loads P 30 ⟨r_2, 0, none⟩ (.agg #[(.bool r0_3), (.slice r1_p_3 r1_n_3 r1_c_3), (.slice r2_p_3 r2_n_3 r2_c_3)]) wv_16 ∧ R (.tuple #[(.agg #[(.bool r0_3), (.slice r1_p_3 r1_n_3 r1_c_3), (.slice r2_p_3 r2_n_3 r2_c_3)]), (.bool false)]) wv_16) ∧
 ((!t11) = false →
 spec_RatMul_j0 r r_1 r_2 wv_15 R))
theorem spec_RatMul_ret {r0 : Bool} {r1_p : Option Addr} {r1_n : Nat} {r1_c : Nat} {r2_p : Option Addr} {r2_n : Nat} {r2_c : Nat} {s0 : Bool} {s1_p : Option Addr} {s1_n : Nat} {s1_c : Nat} {s2_p : Option Addr} {s2_n : Nat} {s2_c : Nat} {w : World} {R : Value → World → Prop} (h : spec_RatMul r0 r1_p r1_n r1_c r2_p r2_n r2_c s0 s1_p s1_n s1_c s2_p s2_n s2_c w R) : Ret P 27 [(.agg #[(.bool r0), (.slice r1_p r1_n r1_c), (.slice r2_p r2_n r2_c)]), (.agg #[(.bool s0), (.slice s1_p s1_n s1_c), (.slice s2_p s2_n s2_c)])] w R :=
  Ret.of_fsem Tryz.func27 rfl (Eq.mp (show _ = fsem P Tryz.f27 (fun k => []) _ R w from by kernel_rfl) h)
def spec_DecRat (d0 : Bool) (d1_p : Option Addr) (d1_n : Nat) (d1_c : Nat) (d2 : Int) (w : World) (R : Value → World → Prop) : Prop :=
 ∀ (r : Nat) (wv : World), New w (.cells ⟨[(.bool d0), (.slice d1_p d1_n d1_c), (.int .i64 d2)]⟩ 58 (0, 0)) r wv →
 ∀ (r_1 : Nat) (wv_1 : World), New wv (.cells ⟨[(.bool false), (.slice none 0 0), (.slice none 0 0)]⟩ 30 (0, 0)) r_1 wv_1 →
 ∃ (t50 : Bool) (t51_p : Option Addr) (t51_n : Nat) (t51_c : Nat) (t52 : Int), Loads P 58 ⟨r, 0, none⟩ (.agg #[(.bool t50), (.slice t51_p t51_n t51_c), (.int .i64 t52)]) wv_1 ∧ Calls P 60 ⟨[(.agg #[(.bool t50), (.slice t51_p t51_n t51_c), (.int .i64 t52)])]⟩ wv_1 fun e wv_2 =>
 ∃ (t6 : Bool), e = .returned (.bool t6) ∧
 ((!t6) = true →
 ∃ wv_3, Stores P 30 ⟨r_1, 0, none⟩ (.agg #[(.bool false), (.slice none 0 0), (.slice none 0 0)]) wv_2 wv_3 ∧
 ∃ (r0 : Bool) (r1_p : Option Addr) (r1_n : Nat) (r1_c : Nat) (r2_p : Option Addr) (r2_n : Nat) (r2_c : Nat), Loads P 30 ⟨r_1, 0, none⟩ (.agg #[(.bool r0), (.slice r1_p r1_n r1_c), (.slice r2_p r2_n r2_c)]) wv_3 ∧ R (.agg #[(.bool r0), (.slice r1_p r1_n r1_c), (.slice r2_p r2_n r2_c)]) wv_3) ∧
 ((!t6) = false →
 ∃ (t110 : Bool) (t111_p : Option Addr) (t111_n : Nat) (t111_c : Nat), (∀ wv_4, Ext wv_2.drew wv_4 → Loads P 28 ((⟨r, 0, none⟩ : Addr).add 0) (.agg #[(.bool t110), (.slice t111_p t111_n t111_c)]) wv_4) ∧ ∃ (t13 : Int), (∀ wv_5, Ext wv_2.drew wv_5 → Loads P 3 ((⟨r, 0, none⟩ : Addr).add 2) (.int .i64 t13) wv_5) ∧ ∀ (ss : List (Option Nat)) (wv_6 : World), Fl [.cells ⟨[(.bool false), (.slice none 0 0), (.slice none 0 0)]⟩ 30 (0, 0)] [none] wv_2.drew ss wv_6 →
 Calls P 61 ⟨[(.int .i64 t13)]⟩ wv_6 fun e_1 wv_7 =>
 ∃ (t140 : Bool) (t141_p : Option Addr) (t141_n : Nat) (t141_c : Nat), e_1 = .returned (.agg #[(.bool t140), (.slice t141_p t141_n t141_c)]) ∧
 Ext wv_6 wv_7 ∧ ∀ (ss_1 : List (Option Nat)) (wv_8 : World), Fl [.cells ⟨[(.bool false), (.slice none 0 0), (.slice none 0 0)]⟩ 30 (0, 0)] ss wv_7 ss_1 wv_8 →
 Calls P 53 ⟨[(.agg #[(.bool t110), (.slice t111_p t111_n t111_c)]), (.agg #[(.bool t140), (.slice t141_p t141_n t141_c)])]⟩ wv_8 fun e_2 wv_9 =>
 ∃ (t150 : Bool) (t151_p : Option Addr) (t151_n : Nat) (t151_c : Nat) (t152_p : Option Addr) (t152_n : Nat) (t152_c : Nat) (t15 : Bool), e_2 = .returned (.tuple #[(.agg #[(.bool t150), (.slice t151_p t151_n t151_c), (.slice t152_p t152_n t152_c)]), (.bool t15)]) ∧
 ∀ (ss_2 : List (Option Nat)) (wv_10 : World) (r_2 : Nat), Fl [.cells ⟨[(.bool false), (.slice none 0 0), (.slice none 0 0)]⟩ 30 (0, 0)] ss_1 wv_9 ss_2 wv_10 → ss_2[0]? = some (some r_2) →
 ∃ wv_11, Stores P 30 ⟨r_2, 0, none⟩ (.agg #[(.bool t150), (.slice t151_p t151_n t151_c), (.slice t152_p t152_n t152_c)]) wv_10 wv_11 ∧
 ∃ (t180 : Bool) (t181_p : Option Addr) (t181_n : Nat) (t181_c : Nat) (t182_p : Option Addr) (t182_n : Nat) (t182_c : Nat), Loads P 30 ⟨r_2, 0, none⟩ (.agg #[(.bool t180), (.slice t181_p t181_n t181_c), (.slice t182_p t182_n t182_c)]) wv_11 ∧ ∃ wv_12, Stores P 30 ⟨r_1, 0, none⟩ (.agg #[(.bool t180), (.slice t181_p t181_n t181_c), (.slice t182_p t182_n t182_c)]) wv_11 wv_12 ∧
 ∃ (r0_1 : Bool) (r1_p_1 : Option Addr) (r1_n_1 : Nat) (r1_c_1 : Nat) (r2_p_1 : Option Addr) (r2_n_1 : Nat) (r2_c_1 : Nat), Loads P 30 ⟨r_1, 0, none⟩ (.agg #[(.bool r0_1), (.slice r1_p_1 r1_n_1 r1_c_1), (.slice r2_p_1 r2_n_1 r2_c_1)]) wv_12 ∧ R (.agg #[(.bool r0_1), (.slice r1_p_1 r1_n_1 r1_c_1), (.slice r2_p_1 r2_n_1 r2_c_1)]) wv_12)
theorem spec_DecRat_ret {d0 : Bool} {d1_p : Option Addr} {d1_n : Nat} {d1_c : Nat} {d2 : Int} {w : World} {R : Value → World → Prop} (h : spec_DecRat d0 d1_p d1_n d1_c d2 w R) : Ret P 28 [(.agg #[(.bool d0), (.slice d1_p d1_n d1_c), (.int .i64 d2)])] w R :=
  Ret.of_fsem Tryz.func28 rfl (Eq.mp (show _ = fsem P Tryz.f28 (fun k => []) _ R w from by kernel_rfl) h)
def spec_RatAdd_j0 (r : Nat) (r_1 : Nat) (r_2 : Nat) (W : World) (R : Value → World → Prop) : Prop :=
 ∃ (t20 : Bool), (∀ wv_5, Ext W.drew wv_5 → Loads P 4 (((⟨r, 0, none⟩ : Addr).add 0).add 0) (.bool t20) wv_5) ∧ ∃ (t23_p : Option Addr) (t23_n : Nat) (t23_c : Nat), (∀ wv_6, Ext W.drew wv_6 → Loads P 23 (((⟨r, 0, none⟩ : Addr).add 0).add 1) (.slice t23_p t23_n t23_c) wv_6) ∧ ∃ (t25_p : Option Addr) (t25_n : Nat) (t25_c : Nat), (∀ wv_7, Ext W.drew wv_7 → Loads P 23 ((⟨r_1, 0, none⟩ : Addr).add 2) (.slice t25_p t25_n t25_c) wv_7) ∧ ∀ (ss : List (Option Nat)) (wv_8 : World), Fl [.cells ⟨[(.bool false), (.slice none 0 0)]⟩ 28 (0, 0)] [none] W.drew ss wv_8 →
 Calls P 59 ⟨[(.slice t23_p t23_n t23_c), (.slice t25_p t25_n t25_c)]⟩ wv_8 fun e_1 wv_9 =>
 ∃ (t26_p : Option Addr) (t26_n : Nat) (t26_c : Nat), e_1 = .returned (.slice t26_p t26_n t26_c) ∧
 Ext wv_8 wv_9 ∧ ∀ (ss_1 : List (Option Nat)) (wv_10 : World), Fl [.cells ⟨[(.bool false), (.slice none 0 0)]⟩ 28 (0, 0)] ss wv_9 ss_1 wv_10 →
 Calls P 51 ⟨[(.bool t20), (.slice t26_p t26_n t26_c)]⟩ wv_10 fun e_2 wv_11 =>
 ∃ (t270 : Bool) (t271_p : Option Addr) (t271_n : Nat) (t271_c : Nat), e_2 = .returned (.agg #[(.bool t270), (.slice t271_p t271_n t271_c)]) ∧
 ∀ (ss_2 : List (Option Nat)) (wv_12 : World) (r_3 : Nat), Fl [.cells ⟨[(.bool false), (.slice none 0 0)]⟩ 28 (0, 0)] ss_1 wv_11 ss_2 wv_12 → ss_2[0]? = some (some r_3) →
 ∃ wv_13, Stores P 28 ⟨r_3, 0, none⟩ (.agg #[(.bool t270), (.slice t271_p t271_n t271_c)]) wv_12 wv_13 ∧
 ∃ (t30 : Bool), (∀ wv_14, Ext wv_13.drew wv_14 → Loads P 4 (((⟨r_1, 0, none⟩ : Addr).add 0).add 0) (.bool t30) wv_14) ∧ ∃ (t33_p : Option Addr) (t33_n : Nat) (t33_c : Nat), (∀ wv_15, Ext wv_13.drew wv_15 → Loads P 23 (((⟨r_1, 0, none⟩ : Addr).add 0).add 1) (.slice t33_p t33_n t33_c) wv_15) ∧ ∃ (t35_p : Option Addr) (t35_n : Nat) (t35_c : Nat), (∀ wv_16, Ext wv_13.drew wv_16 → Loads P 23 ((⟨r, 0, none⟩ : Addr).add 2) (.slice t35_p t35_n t35_c) wv_16) ∧ ∀ (ss_3 : List (Option Nat)) (wv_17 : World), Fl [.cells ⟨[(.bool false), (.slice none 0 0)]⟩ 28 (0, 0)] [none] wv_13.drew ss_3 wv_17 →
 Calls P 59 ⟨[(.slice t33_p t33_n t33_c), (.slice t35_p t35_n t35_c)]⟩ wv_17 fun e_3 wv_18 =>
 ∃ (t36_p : Option Addr) (t36_n : Nat) (t36_c : Nat), e_3 = .returned (.slice t36_p t36_n t36_c) ∧
 Ext wv_17 wv_18 ∧ ∀ (ss_4 : List (Option Nat)) (wv_19 : World), Fl [.cells ⟨[(.bool false), (.slice none 0 0)]⟩ 28 (0, 0)] ss_3 wv_18 ss_4 wv_19 →
 Calls P 51 ⟨[(.bool t30), (.slice t36_p t36_n t36_c)]⟩ wv_19 fun e_4 wv_20 =>
 ∃ (t370 : Bool) (t371_p : Option Addr) (t371_n : Nat) (t371_c : Nat), e_4 = .returned (.agg #[(.bool t370), (.slice t371_p t371_n t371_c)]) ∧
 ∀ (ss_5 : List (Option Nat)) (wv_21 : World) (r_4 : Nat), Fl [.cells ⟨[(.bool false), (.slice none 0 0)]⟩ 28 (0, 0)] ss_4 wv_20 ss_5 wv_21 → ss_5[0]? = some (some r_4) →
 ∃ wv_22, Stores P 28 ⟨r_4, 0, none⟩ (.agg #[(.bool t370), (.slice t371_p t371_n t371_c)]) wv_21 wv_22 ∧
 ∃ (t380 : Bool) (t381_p : Option Addr) (t381_n : Nat) (t381_c : Nat), Loads P 28 ⟨r_3, 0, none⟩ (.agg #[(.bool t380), (.slice t381_p t381_n t381_c)]) wv_22 ∧ ∃ (t390 : Bool) (t391_p : Option Addr) (t391_n : Nat) (t391_c : Nat), Loads P 28 ⟨r_4, 0, none⟩ (.agg #[(.bool t390), (.slice t391_p t391_n t391_c)]) wv_22 ∧ Calls P 54 ⟨[(.agg #[(.bool t380), (.slice t381_p t381_n t381_c)]), (.agg #[(.bool t390), (.slice t391_p t391_n t391_c)])]⟩ wv_22 fun e_5 wv_23 =>
 ∃ (t400 : Bool) (t401_p : Option Addr) (t401_n : Nat) (t401_c : Nat), e_5 = .returned (.agg #[(.bool t400), (.slice t401_p t401_n t401_c)]) ∧
 ∀ (r_5 : Nat) (wv_24 : World), New wv_23 (.cells ⟨[(.bool false), (.slice none 0 0)]⟩ 28 (0, 0)) r_5 wv_24 →
 ∃ wv_25, Stores P 28 ⟨r_5, 0, none⟩ (.agg #[(.bool t400), (.slice t401_p t401_n t401_c)]) wv_24 wv_25 ∧
 ∃ (t42 : Bool), (∀ wv_26, Ext wv_25.drew wv_26 → Loads P 4 ((⟨r_5, 0, none⟩ : Addr).add 0) (.bool t42) wv_26) ∧ ∃ (t44_p : Option Addr) (t44_n : Nat) (t44_c : Nat), (∀ wv_27, Ext wv_25.drew wv_27 → Loads P 23 ((⟨r_5, 0, none⟩ : Addr).add 1) (.slice t44_p t44_n t44_c) wv_27) ∧ ∃ (t46_p : Option Addr) (t46_n : Nat) (t46_c : Nat), (∀ wv_28, Ext wv_25.drew wv_28 → Loads P 23 ((⟨r, 0, none⟩ : Addr).add 2) (.slice t46_p t46_n t46_c) wv_28) ∧ ∃ (t48_p : Option Addr) (t48_n : Nat) (t48_c : Nat), (∀ wv_29, Ext wv_25.drew wv_29 → Loads P 23 ((⟨r_1, 0, none⟩ : Addr).add 2) (.slice t48_p t48_n t48_c) wv_29) ∧ Calls P 59 ⟨[(.slice t46_p t46_n t46_c), (.slice t48_p t48_n t48_c)]⟩ wv_25.drew fun e_6 wv_30 =>
 ∃ (t49_p : Option Addr) (t49_n : Nat) (t49_c : Nat), e_6 = .returned (.slice t49_p t49_n t49_c) ∧
 Ext wv_25.drew wv_30 ∧ Calls P 58 ⟨[(.bool t42), (.slice t44_p t44_n t44_c), (.slice t49_p t49_n t49_c)]⟩ wv_30 fun e_7 wv_31 =>
 ∃ (t500 : Bool) (t501_p : Option Addr) (t501_n : Nat) (t501_c : Nat) (t502_p : Option Addr) (t502_n : Nat) (t502_c : Nat) (t50 : Bool), e_7 = .returned (.tuple #[(.agg #[(.bool t500), (.slice t501_p t501_n t501_c), (.slice t502_p t502_n t502_c)]), (.bool t50)]) ∧
 ∃ wv_32, Stores P 30 ⟨r_2, 0, none⟩ (.agg #[(.bool t500), (.slice t501_p t501_n t501_c), (.slice t502_p t502_n t502_c)]) wv_31 wv_32 ∧
 ∃ (r0_2 : Bool) (r1_p_2 : Option Addr) (r1_n_2 : Nat) (r1_c_2 : Nat) (r2_p_2 : Option Addr) (r2_n_2 : Nat) (r2_c_2 : Nat), Loads P 30 ⟨r_2, 0, none⟩ (.agg #[(.bool r0_2), (.slice r1_p_2 r1_n_2 r1_c_2), (.slice r2_p_2 r2_n_2 r2_c_2)]) wv_32 ∧ R (.tuple #[(.agg #[(.bool r0_2), (.slice r1_p_2 r1_n_2 r1_c_2), (.slice r2_p_2 r2_n_2 r2_c_2)]), (.bool t50)]) wv_32
def spec_RatAdd (r0 : Bool) (r1_p : Option Addr) (r1_n : Nat) (r1_c : Nat) (r2_p : Option Addr) (r2_n : Nat) (r2_c : Nat) (s0 : Bool) (s1_p : Option Addr) (s1_n : Nat) (s1_c : Nat) (s2_p : Option Addr) (s2_n : Nat) (s2_c : Nat) (w : World) (R : Value → World → Prop) : Prop :=
 ∀ (r : Nat) (wv : World), New w (.cells ⟨[(.bool r0), (.slice r1_p r1_n r1_c), (.slice r2_p r2_n r2_c)]⟩ 30 (0, 0)) r wv →
 ∀ (r_1 : Nat) (wv_1 : World), New wv (.cells ⟨[(.bool s0), (.slice s1_p s1_n s1_c), (.slice s2_p s2_n s2_c)]⟩ 30 (0, 0)) r_1 wv_1 →
 ∀ (r_2 : Nat) (wv_2 : World), New wv_1 (.cells ⟨[(.bool false), (.slice none 0 0), (.slice none 0 0)]⟩ 30 (0, 0)) r_2 wv_2 →
 ∃ (t90 : Bool) (t91_p : Option Addr) (t91_n : Nat) (t91_c : Nat) (t92_p : Option Addr) (t92_n : Nat) (t92_c : Nat), Loads P 30 ⟨r, 0, none⟩ (.agg #[(.bool t90), (.slice t91_p t91_n t91_c), (.slice t92_p t92_n t92_c)]) wv_2 ∧ Calls P 57 ⟨[(.agg #[(.bool t90), (.slice t91_p t91_n t91_c), (.slice t92_p t92_n t92_c)])]⟩ wv_2 fun e wv_3 =>
 ∃ (t10 : Bool), e = .returned (.bool t10) ∧
 ((!t10) = true →
 (true = true →
 ∃ wv_4, Stores P 30 ⟨r_2, 0, none⟩ (.agg #[(.bool false), (.slice none 0 0), (.slice none 0 0)]) wv_3 wv_4 ∧
 ∃ (r0_1 : Bool) (r1_p_1 : Option Addr) (r1_n_1 : Nat) (r1_c_1 : Nat) (r2_p_1 : Option Addr) (r2_n_1 : Nat) (r2_c_1 : Nat), Loads P 30 ⟨r_2, 0, none⟩ (.agg #[(.bool r0_1), (.slice r1_p_1 r1_n_1 r1_c_1), (.slice r2_p_1 r2_n_1 r2_c_1)]) wv_4 ∧ R (.tuple #[(.agg #[(.bool r0_1), (.slice r1_p_1 r1_n_1 r1_c_1), (.slice r2_p_1 r2_n_1 r2_c_1)]), (.bool false)]) wv_4) ∧
 (true = false →
 spec_RatAdd_j0 r r_1 r_2 wv_3 R)) ∧
 ((!t10) = false →
 ∃ (t130 : Bool) (t131_p : Option Addr) (t131_n : Nat) (t131_c : Nat) (t132_p : Option Addr) (t132_n : Nat) (t132_c : Nat), Loads P 30 ⟨r_1, 0, none⟩ (.agg #[(.bool t130), (.slice t131_p t131_n t131_c), (.slice t132_p t132_n t132_c)]) wv_3 ∧ Calls P 57 ⟨[(.agg #[(.bool t130), (.slice t131_p t131_n t131_c), (.slice t132_p t132_n t132_c)])]⟩ wv_3 fun e_8 wv_33 =>
 ∃ (t14 : Bool), e_8 = .returned (.bool t14) ∧
 ((!t14) = true →
 ∃ wv_34, Stores P 30 ⟨r_2, 0, none⟩ (.agg #[(.bool false), (.slice none 0 0), (.slice none 0 0)]) wv_33 wv_34 ∧
 ∃ (r0_3 : Bool) (r1_p_3 : Option Addr) (r1_n_3 : Nat) (r1_c_3 : Nat) (r2_p_3 : Option Addr) (r2_n_3 : Nat) (r2_c_3 : Nat), Loads P 30 ⟨r_2, 0, none⟩ (.agg #[(.bool r0_3), (.slice r1_p_3 r1_n_3 r1_c_3), (.slice r2_p_3 r2_n_3 r2_c_3)]) wv_34 ∧ R (.tuple #[(.agg #[(.bool r0_3), (.slice r1_p_3 r1_n_3 r1_c_3), (.slice r2_p_3 r2_n_3 r2_c_3)]), (.bool false)]) wv_34) ∧
 ((!t14) = false →
 spec_RatAdd_j0 r r_1 r_2 wv_33 R))
theorem spec_RatAdd_ret {r0 : Bool} {r1_p : Option Addr} {r1_n : Nat} {r1_c : Nat} {r2_p : Option Addr} {r2_n : Nat} {r2_c : Nat} {s0 : Bool} {s1_p : Option Addr} {s1_n : Nat} {s1_c : Nat} {s2_p : Option Addr} {s2_n : Nat} {s2_c : Nat} {w : World} {R : Value → World → Prop} (h : spec_RatAdd r0 r1_p r1_n r1_c r2_p r2_n r2_c s0 s1_p s1_n s1_c s2_p s2_n s2_c w R) : Ret P 29 [(.agg #[(.bool r0), (.slice r1_p r1_n r1_c), (.slice r2_p r2_n r2_c)]), (.agg #[(.bool s0), (.slice s1_p s1_n s1_c), (.slice s2_p s2_n s2_c)])] w R :=
  Ret.of_fsem Tryz.func29 rfl (Eq.mp (show _ = fsem P Tryz.f29 (fun k => []) _ R w from by kernel_rfl) h)
def impl_StepsOk_j0 (l_p : Option Addr) (l_n : Nat) (W : World) (R : Value → World → Prop) : Prop :=
 ∃ (Inv : Int → World → Prop) (mu : Int → World → Nat), Inv 0 W ∧
 ∀ (junk : Fr) (wv : World) (t22 : Int), Inv t22 wv →
 ((decide ((t22 : Int) < ((l_n : Nat) : Int))) = true →
 (0 ≤ (t22 : Int) ∧ (t22 : Int) < (l_n : Nat)) ∧ ptrS l_p fun ad => ∃ (t260 : Int) (t261 : Bool) (t262_p : Option Addr) (t262_n : Nat) (t262_c : Nat) (t263 : Int), Loads P 60 (ad.add (t22.toNat * 4)) (.agg #[(.int .i64 t260), (.bool t261), (.slice t262_p t262_n t262_c), (.int .i64 t263)]) wv ∧ ∀ (r : Nat) (wv_1 : World), New wv (.cells ⟨[(.int .i64 0), (.bool false), (.slice none 0 0), (.int .i64 0)]⟩ 60 (0, 0)) r wv_1 →
 ∃ wv_2, Stores P 60 ⟨r, 0, none⟩ (.agg #[(.int .i64 t260), (.bool t261), (.slice t262_p t262_n t262_c), (.int .i64 t263)]) wv_1 wv_2 ∧
 ∃ (t28 : Int), (∀ wv_3, Ext wv_2.drew wv_3 → Loads P 3 ((⟨r, 0, none⟩ : Addr).add 0) (.int .i64 t28) wv_3) ∧ ((decide ((1000000000 : Int) < t28)) = true →
 (true = true →
 (true = true →
 R (.bool false) wv_2.drew) ∧
 (true = false →
 ∃ t51 : Int, t51 = IntKind.wrap .i64 (t22 + 1) ∧ Inv t51 wv_2.drew ∧ mu t51 wv_2.drew < mu t22 wv)) ∧
 (true = false →
 ∃ (t470 : Bool) (t471_p : Option Addr) (t471_n : Nat) (t471_c : Nat) (t472 : Int), (∀ wv_4, Ext wv_2.drew wv_4 → Loads P 58 ((⟨r, 0, none⟩ : Addr).add 1) (.agg #[(.bool t470), (.slice t471_p t471_n t471_c), (.int .i64 t472)]) wv_4) ∧ Calls P 63 ⟨[(.agg #[(.bool t470), (.slice t471_p t471_n t471_c), (.int .i64 t472)])]⟩ wv_2.drew fun e wv_5 =>
 ∃ (t48 : Bool), e = .returned (.bool t48) ∧
 ((!t48) = true →
 R (.bool false) wv_5) ∧
 ((!t48) = false →
 ∃ t51_1 : Int, t51_1 = IntKind.wrap .i64 (t22 + 1) ∧ Inv t51_1 wv_5 ∧ mu t51_1 wv_5 < mu t22 wv))) ∧
 ((decide ((1000000000 : Int) < t28)) = false →
 ((decide ((0 : Int) < t22)) = true →
 ∃ t36 : Int, t36 = IntKind.wrap .i64 (t22 - 1) ∧ (0 ≤ (t36 : Int) ∧ (t36 : Int) < (l_n : Nat)) ∧ ptrS l_p fun ad_1 => ∃ (t39 : Int), (∀ wv_6, Ext wv_2.drew wv_6 → Loads P 3 ((ad_1.add (t36.toNat * 4)).add 0) (.int .i64 t39) wv_6) ∧ ∃ (t41 : Int), (∀ wv_7, Ext wv_2.drew wv_7 → Loads P 3 ((⟨r, 0, none⟩ : Addr).add 0) (.int .i64 t41) wv_7) ∧ ((decide ((t41 : Int) ≤ t39)) = true →
 (true = true →
 R (.bool false) wv_2.drew) ∧
 (true = false →
 ∃ t51_2 : Int, t51_2 = IntKind.wrap .i64 (t22 + 1) ∧ Inv t51_2 wv_2.drew ∧ mu t51_2 wv_2.drew < mu t22 wv)) ∧
 ((decide ((t41 : Int) ≤ t39)) = false →
 ∃ (t470_1 : Bool) (t471_p_1 : Option Addr) (t471_n_1 : Nat) (t471_c_1 : Nat) (t472_1 : Int), (∀ wv_8, Ext wv_2.drew wv_8 → Loads P 58 ((⟨r, 0, none⟩ : Addr).add 1) (.agg #[(.bool t470_1), (.slice t471_p_1 t471_n_1 t471_c_1), (.int .i64 t472_1)]) wv_8) ∧ Calls P 63 ⟨[(.agg #[(.bool t470_1), (.slice t471_p_1 t471_n_1 t471_c_1), (.int .i64 t472_1)])]⟩ wv_2.drew fun e_1 wv_9 =>
 ∃ (t48_1 : Bool), e_1 = .returned (.bool t48_1) ∧
 ((!t48_1) = true →
 R (.bool false) wv_9) ∧
 ((!t48_1) = false →
 ∃ t51_3 : Int, t51_3 = IntKind.wrap .i64 (t22 + 1) ∧ Inv t51_3 wv_9 ∧ mu t51_3 wv_9 < mu t22 wv))) ∧
 ((decide ((0 : Int) < t22)) = false →
 (false = true →
 (true = true →
 R (.bool false) wv_2.drew) ∧
 (true = false →
 ∃ t51_4 : Int, t51_4 = IntKind.wrap .i64 (t22 + 1) ∧ Inv t51_4 wv_2.drew ∧ mu t51_4 wv_2.drew < mu t22 wv)) ∧
 (false = false →
 ∃ (t470_2 : Bool) (t471_p_2 : Option Addr) (t471_n_2 : Nat) (t471_c_2 : Nat) (t472_2 : Int), (∀ wv_10, Ext wv_2.drew wv_10 → Loads P 58 ((⟨r, 0, none⟩ : Addr).add 1) (.agg #[(.bool t470_2), (.slice t471_p_2 t471_n_2 t471_c_2), (.int .i64 t472_2)]) wv_10) ∧ Calls P 63 ⟨[(.agg #[(.bool t470_2), (.slice t471_p_2 t471_n_2 t471_c_2), (.int .i64 t472_2)])]⟩ wv_2.drew fun e_2 wv_11 =>
 ∃ (t48_2 : Bool), e_2 = .returned (.bool t48_2) ∧
 ((!t48_2) = true →
 R (.bool false) wv_11) ∧
 ((!t48_2) = false →
 ∃ t51_5 : Int, t51_5 = IntKind.wrap .i64 (t22 + 1) ∧ Inv t51_5 wv_11 ∧ mu t51_5 wv_11 < mu t22 wv))))) ∧
 ((decide ((t22 : Int) < ((l_n : Nat) : Int))) = false →
 R (.bool true) wv)
def impl_StepsOk (l_p : Option Addr) (l_n : Nat) (l_c : Nat) (w : World) (R : Value → World → Prop) : Prop :=
 ((decide ((((l_n : Nat) : Int) : Int) < 1)) = true →
 (true = true →
 (true = true →
 R (.bool false) w) ∧
 (true = false →
 impl_StepsOk_j0 l_p l_n w R)) ∧
 (true = false →
 (0 ≤ (0 : Int) ∧ (0 : Int) < (l_n : Nat)) ∧ ptrS l_p fun ad_2 => ∃ (t17 : Int), Loads P 3 ((ad_2.add (0 * 4)).add 0) (.int .i64 t17) w ∧ ((decide ((t17 : Int) ≠ 0)) = true →
 R (.bool false) w) ∧
 ((decide ((t17 : Int) ≠ 0)) = false →
 impl_StepsOk_j0 l_p l_n w R))) ∧
 ((decide ((((l_n : Nat) : Int) : Int) < 1)) = false →
 ((decide ((8 : Int) < ((l_n : Nat) : Int))) = true →
 (true = true →
 R (.bool false) w) ∧
 (true = false →
 impl_StepsOk_j0 l_p l_n w R)) ∧
 ((decide ((8 : Int) < ((l_n : Nat) : Int))) = false →
 (0 ≤ (0 : Int) ∧ (0 : Int) < (l_n : Nat)) ∧ ptrS l_p fun ad_3 => ∃ (t17_1 : Int), Loads P 3 ((ad_3.add (0 * 4)).add 0) (.int .i64 t17_1) w ∧ ((decide ((t17_1 : Int) ≠ 0)) = true →
 R (.bool false) w) ∧
 ((decide ((t17_1 : Int) ≠ 0)) = false →
 impl_StepsOk_j0 l_p l_n w R)))
theorem impl_StepsOk_ret {l_p : Option Addr} {l_n : Nat} {l_c : Nat} {w : World} {R : Value → World → Prop} (h : impl_StepsOk l_p l_n l_c w R) : Ret P 32 [(.slice l_p l_n l_c)] w R :=
  Ret.of_fsem Tryz.func32 rfl (Eq.mp (show _ = fsem P Tryz.f32 (fun k => cond (Nat.beq k 5) [(22, .one (.int .i64))] ([])) _ R w from by kernel_rfl) h)
def impl_IntOk (x0 : Bool) (x1_p : Option Addr) (x1_n : Nat) (x1_c : Nat) (w : World) (R : Value → World → Prop) : Prop :=
 ∀ (r : Nat) (wv : World), New w (.cells ⟨[(.bool x0), (.slice x1_p x1_n x1_c)]⟩ 28 (0, 0)) r wv →
 ∃ (t4_p : Option Addr) (t4_n : Nat) (t4_c : Nat), Loads P 23 ((⟨r, 0, none⟩ : Addr).add 1) (.slice t4_p t4_n t4_c) wv ∧ Calls P 64 ⟨[(.slice t4_p t4_n t4_c)]⟩ wv fun e wv_1 =>
 ∃ (t5 : Bool), e = .returned (.bool t5) ∧
 (t5 = true →
 ∃ (t8 : Bool), Loads P 4 ((⟨r, 0, none⟩ : Addr).add 0) (.bool t8) wv_1 ∧ ((!t8) = true →
 R (.bool true) wv_1) ∧
 ((!t8) = false →
 ∃ (t12_p : Option Addr) (t12_n : Nat) (t12_c : Nat), Loads P 23 ((⟨r, 0, none⟩ : Addr).add 1) (.slice t12_p t12_n t12_c) wv_1 ∧ R (.bool (decide ((0 : Int) < ((t12_n : Nat) : Int)))) wv_1)) ∧
 (t5 = false →
 R (.bool false) wv_1)
theorem impl_IntOk_ret {x0 : Bool} {x1_p : Option Addr} {x1_n : Nat} {x1_c : Nat} {w : World} {R : Value → World → Prop} (h : impl_IntOk x0 x1_p x1_n x1_c w R) : Ret P 33 [(.agg #[(.bool x0), (.slice x1_p x1_n x1_c)])] w R :=
  Ret.of_fsem Tryz.func33 rfl (Eq.mp (show _ = fsem P Tryz.f33 (fun k => []) _ R w from by kernel_rfl) h)
def impl_RatZero (w : World) (R : Value → World → Prop) : Prop :=
 ∀ (r : Nat) (wv : World), New w (.cells ⟨[(.bool false), (.slice none 0 0), (.slice none 0 0)]⟩ 30 (0, 0)) r wv →
 ∀ (r_1 : Nat) (wv_1 : World), New wv (.cells ⟨[(.int .i64 1)]⟩ 3 (0, 0)) r_1 wv_1 →
 ∃ wv_2, Stores P 30 ⟨r, 0, none⟩ (.agg #[(.bool false), (.slice none 0 0), (.slice (some ⟨r_1, 0, none⟩) 1 1)]) wv_1 wv_2 ∧
 ∃ (r0 : Bool) (r1_p : Option Addr) (r1_n : Nat) (r1_c : Nat) (r2_p : Option Addr) (r2_n : Nat) (r2_c : Nat), Loads P 30 ⟨r, 0, none⟩ (.agg #[(.bool r0), (.slice r1_p r1_n r1_c), (.slice r2_p r2_n r2_c)]) wv_2 ∧ R (.agg #[(.bool r0), (.slice r1_p r1_n r1_c), (.slice r2_p r2_n r2_c)]) wv_2
theorem impl_RatZero_ret {w : World} {R : Value → World → Prop} (h : impl_RatZero w R) : Ret P 34 [] w R :=
  Ret.of_fsem Tryz.func34 rfl (Eq.mp (show _ = fsem P Tryz.f34 (fun k => []) _ R w from by kernel_rfl) h)
def impl_natCmp (a_p : Option Addr) (a_n : Nat) (a_c : Nat) (b_p : Option Addr) (b_n : Nat) (b_c : Nat) (w : World) (R : Value → World → Prop) : Prop :=
 ((decide ((((a_n : Nat) : Int) : Int) ≠ ((b_n : Nat) : Int))) = true →
 ((decide ((((a_n : Nat) : Int) : Int) < ((b_n : Nat) : Int))) = true →
 R (.int .i64 (-1)) w) ∧
 ((decide ((((a_n : Nat) : Int) : Int) < ((b_n : Nat) : Int))) = false →
 R (.int .i64 1) w)) ∧
 ((decide ((((a_n : Nat) : Int) : Int) ≠ ((b_n : Nat) : Int))) = false →
 ∃ t18 : Int, t18 = IntKind.wrap .i64 (((a_n : Nat) : Int) - 1) ∧ ∃ (Inv : Int → World → Prop) (mu : Int → World → Nat), Inv t18 w ∧
 ∀ (junk : Fr) (wv : World) (i : Int), Inv i wv →
 ((decide ((0 : Int) ≤ i)) = true →
 (0 ≤ (i : Int) ∧ (i : Int) < (a_n : Nat)) ∧ ptrS a_p fun ad => ∃ (t26 : Int), (∀ wv_1, Ext wv.drew wv_1 → Loads P 3 (ad.add (i.toNat * 1)) (.int .i64 t26) wv_1) ∧ (0 ≤ (i : Int) ∧ (i : Int) < (b_n : Nat)) ∧ ptrS b_p fun ad_1 => ∃ (t30 : Int), (∀ wv_2, Ext wv.drew wv_2 → Loads P 3 (ad_1.add (i.toNat * 1)) (.int .i64 t30) wv_2) ∧ ((decide ((t26 : Int) ≠ t30)) = true →
 (0 ≤ (i : Int) ∧ (i : Int) < (a_n : Nat)) ∧ ptrS a_p fun ad_2 => ∃ (t35 : Int), (∀ wv_3, Ext wv.drew.drew wv_3 → Loads P 3 (ad_2.add (i.toNat * 1)) (.int .i64 t35) wv_3) ∧ (0 ≤ (i : Int) ∧ (i : Int) < (b_n : Nat)) ∧ ptrS b_p fun ad_3 => ∃ (t39 : Int), (∀ wv_4, Ext wv.drew.drew wv_4 → Loads P 3 (ad_3.add (i.toNat * 1)) (.int .i64 t39) wv_4) ∧ ((decide ((t35 : Int) < t39)) = true →
 R (.int .i64 (-1)) wv.drew.drew) ∧
 ((decide ((t35 : Int) < t39)) = false →
 R (.int .i64 1) wv.drew.drew)) ∧
 ((decide ((t26 : Int) ≠ t30)) = false →
 ∃ t22 : Int, t22 = IntKind.wrap .i64 (i - 1) ∧ Inv t22 wv.drew ∧ mu t22 wv.drew < mu i wv)) ∧
 ((decide ((0 : Int) ≤ i)) = false →
 R (.int .i64 0) wv))
theorem impl_natCmp_ret {a_p : Option Addr} {a_n : Nat} {a_c : Nat} {b_p : Option Addr} {b_n : Nat} {b_c : Nat} {w : World} {R : Value → World → Prop} (h : impl_natCmp a_p a_n a_c b_p b_n b_c w R) : Ret P 36 [(.slice a_p a_n a_c), (.slice b_p b_n b_c)] w R :=
  Ret.of_fsem Tryz.func36 rfl (Eq.mp (show _ = fsem P Tryz.f36 (fun k => cond (Nat.beq k 7) [(5, .one (.int .i64))] ([])) _ R w from by kernel_rfl) h)
def impl_NatOf (n : Int) (w : World) (R : Value → World → Prop) : Prop :=
 ((decide ((n : Int) < 0)) = true →
 R (.slice none 0 0) w) ∧
 ((decide ((n : Int) < 0)) = false →
 ∃ t6 : Int, t6 = IntKind.wrap .u64 n ∧ Calls P 66 ⟨[(.int .u64 t6)]⟩ w fun e wv =>
 ∃ (t7_p : Option Addr) (t7_n : Nat) (t7_c : Nat), e = .returned (.slice t7_p t7_n t7_c) ∧
 R (.slice t7_p t7_n t7_c) wv)
theorem impl_NatOf_ret {n : Int} {w : World} {R : Value → World → Prop} (h : impl_NatOf n w R) : Ret P 37 [(.int .i64 n)] w R :=
  Ret.of_fsem Tryz.func37 rfl (Eq.mp (show _ = fsem P Tryz.f37 (fun k => []) _ R w from by kernel_rfl) h)
def impl_natSub_j1 (a_n : Nat) (r : Nat) (wv_1 : World) (Inv : Int → Int → World → Prop) (mu : Int → Int → World → Nat) (borrow : Int) (t14 : Int) (borrow_1 : Int) (n_1 : Int) (W_1 : World) (R : Value → World → Prop) : Prop :=
 (0 ≤ (t14 : Int) ∧ (t14 : Int) < (a_n : Nat)) ∧ ∃ wv_2, Stores P 3 ((⟨r, 0, none⟩ : Addr).add (t14.toNat * 1)) (.int .i64 n_1) W_1 wv_2 ∧
 ∃ t41 : Int, t41 = IntKind.wrap .i64 (t14 + 1) ∧ Inv borrow_1 t41 wv_2 ∧ mu borrow_1 t41 wv_2 < mu borrow t14 wv_1
def impl_natSub_j0 (a_n : Nat) (r : Nat) (wv_1 : World) (Inv : Int → Int → World → Prop) (mu : Int → Int → World → Nat) (borrow : Int) (t14 : Int) (n : Int) (W : World) (R : Value → World → Prop) : Prop :=
 ((decide ((n : Int) < 0)) = true →
 ∃ t36 : Int, t36 = IntKind.wrap .i64 (n + 1000000000) ∧ impl_natSub_j1 a_n r wv_1 Inv mu borrow t14 1 t36 W R) ∧
 ((decide ((n : Int) < 0)) = false →
 impl_natSub_j1 a_n r wv_1 Inv mu borrow t14 0 n W R)
def impl_natSub (a_p : Option Addr) (a_n : Nat) (a_c : Nat) (b_p : Option Addr) (b_n : Nat) (b_c : Nat) (w : World) (R : Value → World → Prop) : Prop :=
 (0 ≤ (((a_n : Nat) : Int) : Int) ∧ (((a_n : Nat) : Int) : Int) ≤ ((a_n : Nat) : Int) ∧ ((8 : Nat) : Int) * ((a_n : Nat) : Int) ≤ 281474976710656) ∧
 ∀ (r : Nat) (wv : World), New w (.cells ⟨zeroRow (.int .i64 0) (a_n * 1)⟩ 3 (0, 0)) r wv →
 ∃ (Inv : Int → Int → World → Prop) (mu : Int → Int → World → Nat), Inv 0 0 wv ∧
 ∀ (junk : Fr) (wv_1 : World) (borrow : Int) (t14 : Int), Inv borrow t14 wv_1 →
 ((decide ((t14 : Int) < ((a_n : Nat) : Int))) = true →
 (0 ≤ (t14 : Int) ∧ (t14 : Int) < (a_n : Nat)) ∧ ptrS a_p fun ad => ∃ (t20 : Int), Loads P 3 (ad.add (t14.toNat * 1)) (.int .i64 t20) wv_1 ∧ ∃ t22 : Int, t22 = IntKind.wrap .i64 (t20 - borrow) ∧ ((decide ((t14 : Int) < ((b_n : Nat) : Int))) = true →
 (0 ≤ (t14 : Int) ∧ (t14 : Int) < (b_n : Nat)) ∧ ptrS b_p fun ad_1 => ∃ (t31 : Int), Loads P 3 (ad_1.add (t14.toNat * 1)) (.int .i64 t31) wv_1 ∧ ∃ t32 : Int, t32 = IntKind.wrap .i64 (t22 - t31) ∧ impl_natSub_j0 a_n r wv_1 Inv mu borrow t14 t32 wv_1 R) ∧
 ((decide ((t14 : Int) < ((b_n : Nat) : Int))) = false →
 impl_natSub_j0 a_n r wv_1 Inv mu borrow t14 t22 wv_1 R)) ∧
 ((decide ((t14 : Int) < ((a_n : Nat) : Int))) = false →
 Calls P 67 ⟨[(.slice (some ⟨r, 0, none⟩) a_n a_n)]⟩ wv_1 fun e wv_3 =>
 ∃ (t43_p : Option Addr) (t43_n : Nat) (t43_c : Nat), e = .returned (.slice t43_p t43_n t43_c) ∧
 R (.slice t43_p t43_n t43_c) wv_3)
theorem impl_natSub_ret {a_p : Option Addr} {a_n : Nat} {a_c : Nat} {b_p : Option Addr} {b_n : Nat} {b_c : Nat} {w : World} {R : Value → World → Prop} (h : impl_natSub a_p a_n a_c b_p b_n b_c w R) : Ret P 38 [(.slice a_p a_n a_c), (.slice b_p b_n b_c)] w R :=
  Ret.of_fsem Tryz.func38 rfl (Eq.mp (show _ = fsem P Tryz.f38 (fun k => cond (Nat.beq k 5) [(6, .one (.int .i64)), (14, .one (.int .i64))] ([])) _ R w from by kernel_rfl) h)
def impl_RatMul (r0 : Bool) (r1_p : Option Addr) (r1_n : Nat) (r1_c : Nat) (r2_p : Option Addr) (r2_n : Nat) (r2_c : Nat) (s0 : Bool) (s1_p : Option Addr) (s1_n : Nat) (s1_c : Nat) (s2_p : Option Addr) (s2_n : Nat) (s2_c : Nat) (w : World) (R : Value → World → Prop) : Prop :=
 ∀ (r : Nat) (wv : World), New w (.cells ⟨[(.bool r0), (.slice r1_p r1_n r1_c), (.slice r2_p r2_n r2_c)]⟩ 30 (0, 0)) r wv →
 ∀ (r_1 : Nat) (wv_1 : World), New wv (.cells ⟨[(.bool s0), (.slice s1_p s1_n s1_c), (.slice s2_p s2_n s2_c)]⟩ 30 (0, 0)) r_1 wv_1 →
 ∀ (r_2 : Nat) (wv_2 : World), New wv_1 (.cells ⟨[(.bool false), (.slice none 0 0), (.slice none 0 0)]⟩ 30 (0, 0)) r_2 wv_2 →
 ∃ (t60 : Bool) (t61_p : Option Addr) (t61_n : Nat) (t61_c : Nat) (t62_p : Option Addr) (t62_n : Nat) (t62_c : Nat), Loads P 30 ⟨r, 0, none⟩ (.agg #[(.bool t60), (.slice t61_p t61_n t61_c), (.slice t62_p t62_n t62_c)]) wv_2 ∧ ∃ (t70 : Bool) (t71_p : Option Addr) (t71_n : Nat) (t71_c : Nat) (t72_p : Option Addr) (t72_n : Nat) (t72_c : Nat), Loads P 30 ⟨r_1, 0, none⟩ (.agg #[(.bool t70), (.slice t71_p t71_n t71_c), (.slice t72_p t72_n t72_c)]) wv_2 ∧ Calls P 68 ⟨[(.agg #[(.bool t60), (.slice t61_p t61_n t61_c), (.slice t62_p t62_n t62_c)]), (.agg #[(.bool t70), (.slice t71_p t71_n t71_c), (.slice t72_p t72_n t72_c)])]⟩ wv_2 fun e wv_3 =>
 ∃ (t8 : Bool), e = .returned (.bool t8) ∧
 ((!t8) = true →
 ∃ wv_4, Stores P 30 ⟨r_2, 0, none⟩ (.agg #[(.bool false), (.slice none 0 0), (.slice none 0 0)]) wv_3 wv_4 ∧
 ∃ (r0_1 : Bool) (r1_p_1 : Option Addr) (r1_n_1 : Nat) (r1_c_1 : Nat) (r2_p_1 : Option Addr) (r2_n_1 : Nat) (r2_c_1 : Nat), Loads P 30 ⟨r_2, 0, none⟩ (.agg #[(.bool r0_1), (.slice r1_p_1 r1_n_1 r1_c_1), (.slice r2_p_1 r2_n_1 r2_c_1)]) wv_4 ∧ R (.tuple #[(.agg #[(.bool r0_1), (.slice r1_p_1 r1_n_1 r1_c_1), (.slice r2_p_1 r2_n_1 r2_c_1)]), (.bool false)]) wv_4) ∧
 ((!t8) = false →
 ∃ (t120 : Bool) (t121_p : Option Addr) (t121_n : Nat) (t121_c : Nat), (∀ wv_5, Ext wv_3.drew wv_5 → Loads P 28 ((⟨r, 0, none⟩ : Addr).add 0) (.agg #[(.bool t120), (.slice t121_p t121_n t121_c)]) wv_5) ∧ ∃ (t140 : Bool) (t141_p : Option Addr) (t141_n : Nat) (t141_c : Nat), (∀ wv_6, Ext wv_3.drew wv_6 → Loads P 28 ((⟨r_1, 0, none⟩ : Addr).add 0) (.agg #[(.bool t140), (.slice t141_p t141_n t141_c)]) wv_6) ∧ Calls P 70 ⟨[(.agg #[(.bool t120), (.slice t121_p t121_n t121_c)]), (.agg #[(.bool t140), (.slice t141_p t141_n t141_c)])]⟩ wv_3.drew fun e_1 wv_7 =>
 ∃ (t150 : Bool) (t151_p : Option Addr) (t151_n : Nat) (t151_c : Nat), e_1 = .returned (.agg #[(.bool t150), (.slice t151_p t151_n t151_c)]) ∧
 Ext wv_3.drew wv_7 ∧ ∃ (t17_p : Option Addr) (t17_n : Nat) (t17_c : Nat), (∀ wv_8, Ext wv_3.drew wv_8 → Loads P 23 ((⟨r, 0, none⟩ : Addr).add 2) (.slice t17_p t17_n t17_c) wv_8) ∧ ∃ (t19_p : Option Addr) (t19_n : Nat) (t19_c : Nat), (∀ wv_9, Ext wv_3.drew wv_9 → Loads P 23 ((⟨r_1, 0, none⟩ : Addr).add 2) (.slice t19_p t19_n t19_c) wv_9) ∧ Calls P 71 ⟨[(.slice t17_p t17_n t17_c), (.slice t19_p t19_n t19_c)]⟩ wv_7 fun e_2 wv_10 =>
 ∃ (t20_p : Option Addr) (t20_n : Nat) (t20_c : Nat), e_2 = .returned (.slice t20_p t20_n t20_c) ∧
 Calls P 69 ⟨[(.agg #[(.bool t150), (.slice t151_p t151_n t151_c)]), (.slice t20_p t20_n t20_c)]⟩ wv_10 fun e_3 wv_11 =>
 ∃ (t210 : Bool) (t211_p : Option Addr) (t211_n : Nat) (t211_c : Nat) (t212_p : Option Addr) (t212_n : Nat) (t212_c : Nat) (t21 : Bool), e_3 = .returned (.tuple #[(.agg #[(.bool t210), (.slice t211_p t211_n t211_c), (.slice t212_p t212_n t212_c)]), (.bool t21)]) ∧
 ∃ wv_12, Stores P 30 ⟨r_2, 0, none⟩ (.agg #[(.bool t210), (.slice t211_p t211_n t211_c), (.slice t212_p t212_n t212_c)]) wv_11 wv_12 ∧
 ∃ (r0_2 : Bool) (r1_p_2 : Option Addr) (r1_n_2 : Nat) (r1_c_2 : Nat) (r2_p_2 : Option Addr) (r2_n_2 : Nat) (r2_c_2 : Nat), Loads P 30 ⟨r_2, 0, none⟩ (.agg #[(.bool r0_2), (.slice r1_p_2 r1_n_2 r1_c_2), (.slice r2_p_2 r2_n_2 r2_c_2)]) wv_12 ∧ R (.tuple #[(.agg #[(.bool r0_2), (.slice r1_p_2 r1_n_2 r1_c_2), (.slice r2_p_2 r2_n_2 r2_c_2)]), (.bool t21)]) wv_12)
theorem impl_RatMul_ret {r0 : Bool} {r1_p : Option Addr} {r1_n : Nat} {r1_c : Nat} {r2_p : Option Addr} {r2_n : Nat} {r2_c : Nat} {s0 : Bool} {s1_p : Option Addr} {s1_n : Nat} {s1_c : Nat} {s2_p : Option Addr} {s2_n : Nat} {s2_c : Nat} {w : World} {R : Value → World → Prop} (h : impl_RatMul r0 r1_p r1_n r1_c r2_p r2_n r2_c s0 s1_p s1_n s1_c s2_p s2_n s2_c w R) : Ret P 39 [(.agg #[(.bool r0), (.slice r1_p r1_n r1_c), (.slice r2_p r2_n r2_c)]), (.agg #[(.bool s0), (.slice s1_p s1_n s1_c), (.slice s2_p s2_n s2_c)])] w R :=
  Ret.of_fsem Tryz.func39 rfl (Eq.mp (show _ = fsem P Tryz.f39 (fun k => []) _ R w from by kernel_rfl) h)
def impl_DecRat (d0 : Bool) (d1_p : Option Addr) (d1_n : Nat) (d1_c : Nat) (d2 : Int) (w : World) (R : Value → World → Prop) : Prop :=
 ∀ (r : Nat) (wv : World), New w (.cells ⟨[(.bool d0), (.slice d1_p d1_n d1_c), (.int .i64 d2)]⟩ 58 (0, 0)) r wv →
 ∀ (r_1 : Nat) (wv_1 : World), New wv (.cells ⟨[(.bool false), (.slice none 0 0), (.slice none 0 0)]⟩ 30 (0, 0)) r_1 wv_1 →
 ∃ (t50 : Bool) (t51_p : Option Addr) (t51_n : Nat) (t51_c : Nat) (t52 : Int), Loads P 58 ⟨r, 0, none⟩ (.agg #[(.bool t50), (.slice t51_p t51_n t51_c), (.int .i64 t52)]) wv_1 ∧ Calls P 72 ⟨[(.agg #[(.bool t50), (.slice t51_p t51_n t51_c), (.int .i64 t52)])]⟩ wv_1 fun e wv_2 =>
 ∃ (t6 : Bool), e = .returned (.bool t6) ∧
 ((!t6) = true →
 ∃ wv_3, Stores P 30 ⟨r_1, 0, none⟩ (.agg #[(.bool false), (.slice none 0 0), (.slice none 0 0)]) wv_2 wv_3 ∧
 ∃ (r0 : Bool) (r1_p : Option Addr) (r1_n : Nat) (r1_c : Nat) (r2_p : Option Addr) (r2_n : Nat) (r2_c : Nat), Loads P 30 ⟨r_1, 0, none⟩ (.agg #[(.bool r0), (.slice r1_p r1_n r1_c), (.slice r2_p r2_n r2_c)]) wv_3 ∧ R (.agg #[(.bool r0), (.slice r1_p r1_n r1_c), (.slice r2_p r2_n r2_c)]) wv_3) ∧
 ((!t6) = false →
 ∃ (t110 : Bool) (t111_p : Option Addr) (t111_n : Nat) (t111_c : Nat), (∀ wv_4, Ext wv_2.drew wv_4 → Loads P 28 ((⟨r, 0, none⟩ : Addr).add 0) (.agg #[(.bool t110), (.slice t111_p t111_n t111_c)]) wv_4) ∧ ∃ (t13 : Int), (∀ wv_5, Ext wv_2.drew wv_5 → Loads P 3 ((⟨r, 0, none⟩ : Addr).add 2) (.int .i64 t13) wv_5) ∧ ∀ (ss : List (Option Nat)) (wv_6 : World), Fl [.cells ⟨[(.bool false), (.slice none 0 0), (.slice none 0 0)]⟩ 30 (0, 0)] [none] wv_2.drew ss wv_6 →
 Calls P 73 ⟨[(.int .i64 t13)]⟩ wv_6 fun e_1 wv_7 =>
 ∃ (t14_p : Option Addr) (t14_n : Nat) (t14_c : Nat), e_1 = .returned (.slice t14_p t14_n t14_c) ∧
 Ext wv_6 wv_7 ∧ ∀ (ss_1 : List (Option Nat)) (wv_8 : World), Fl [.cells ⟨[(.bool false), (.slice none 0 0), (.slice none 0 0)]⟩ 30 (0, 0)] ss wv_7 ss_1 wv_8 →
 Calls P 69 ⟨[(.agg #[(.bool t110), (.slice t111_p t111_n t111_c)]), (.slice t14_p t14_n t14_c)]⟩ wv_8 fun e_2 wv_9 =>
 ∃ (t150 : Bool) (t151_p : Option Addr) (t151_n : Nat) (t151_c : Nat) (t152_p : Option Addr) (t152_n : Nat) (t152_c : Nat) (t15 : Bool), e_2 = .returned (.tuple #[(.agg #[(.bool t150), (.slice t151_p t151_n t151_c), (.slice t152_p t152_n t152_c)]), (.bool t15)]) ∧
 ∀ (ss_2 : List (Option Nat)) (wv_10 : World) (r_2 : Nat), Fl [.cells ⟨[(.bool false), (.slice none 0 0), (.slice none 0 0)]⟩ 30 (0, 0)] ss_1 wv_9 ss_2 wv_10 → ss_2[0]? = some (some r_2) →
 ∃ wv_11, Stores P 30 ⟨r_2, 0, none⟩ (.agg #[(.bool t150), (.slice t151_p t151_n t151_c), (.slice t152_p t152_n t152_c)]) wv_10 wv_11 ∧
 ∃ (t180 : Bool) (t181_p : Option Addr) (t181_n : Nat) (t181_c : Nat) (t182_p : Option Addr) (t182_n : Nat) (t182_c : Nat), Loads P 30 ⟨r_2, 0, none⟩ (.agg #[(.bool t180), (.slice t181_p t181_n t181_c), (.slice t182_p t182_n t182_c)]) wv_11 ∧ ∃ wv_12, Stores P 30 ⟨r_1, 0, none⟩ (.agg #[(.bool t180), (.slice t181_p t181_n t181_c), (.slice t182_p t182_n t182_c)]) wv_11 wv_12 ∧
 ∃ (r0_1 : Bool) (r1_p_1 : Option Addr) (r1_n_1 : Nat) (r1_c_1 : Nat) (r2_p_1 : Option Addr) (r2_n_1 : Nat) (r2_c_1 : Nat), Loads P 30 ⟨r_1, 0, none⟩ (.agg #[(.bool r0_1), (.slice r1_p_1 r1_n_1 r1_c_1), (.slice r2_p_1 r2_n_1 r2_c_1)]) wv_12 ∧ R (.agg #[(.bool r0_1), (.slice r1_p_1 r1_n_1 r1_c_1), (.slice r2_p_1 r2_n_1 r2_c_1)]) wv_12)
theorem impl_DecRat_ret {d0 : Bool} {d1_p : Option Addr} {d1_n : Nat} {d1_c : Nat} {d2 : Int} {w : World} {R : Value → World → Prop} (h : impl_DecRat d0 d1_p d1_n d1_c d2 w R) : Ret P 40 [(.agg #[(.bool d0), (.slice d1_p d1_n d1_c), (.int .i64 d2)])] w R :=
  Ret.of_fsem Tryz.func40 rfl (Eq.mp (show _ = fsem P Tryz.f40 (fun k => []) _ R w from by kernel_rfl) h)
end Go.Proofs.YtmajiilehdpdmaaGreat

namespace Go.Proofs.YtmajiilehdpdmaaGreat
open Go Go.Proofs.YtmajiilehdpdmaaGreat.Sx
set_option linter.unusedVariables false
set_option maxRecDepth 100000
def impl_RatAdd (r0 : Bool) (r1_p : Option Addr) (r1_n : Nat) (r1_c : Nat) (r2_p : Option Addr) (r2_n : Nat) (r2_c : Nat) (s0 : Bool) (s1_p : Option Addr) (s1_n : Nat) (s1_c : Nat) (s2_p : Option Addr) (s2_n : Nat) (s2_c : Nat) (w : World) (R : Value → World → Prop) : Prop :=
 ∀ (r : Nat) (wv : World), New w (.cells ⟨[(.bool r0), (.slice r1_p r1_n r1_c), (.slice r2_p r2_n r2_c)]⟩ 30 (0, 0)) r wv →
 ∀ (r_1 : Nat) (wv_1 : World), New wv (.cells ⟨[(.bool s0), (.slice s1_p s1_n s1_c), (.slice s2_p s2_n s2_c)]⟩ 30 (0, 0)) r_1 wv_1 →
 ∀ (r_2 : Nat) (wv_2 : World), New wv_1 (.cells ⟨[(.bool false), (.slice none 0 0), (.slice none 0 0)]⟩ 30 (0, 0)) r_2 wv_2 →
 ∃ (t80 : Bool) (t81_p : Option Addr) (t81_n : Nat) (t81_c : Nat) (t82_p : Option Addr) (t82_n : Nat) (t82_c : Nat), Loads P 30 ⟨r, 0, none⟩ (.agg #[(.bool t80), (.slice t81_p t81_n t81_c), (.slice t82_p t82_n t82_c)]) wv_2 ∧ ∃ (t90 : Bool) (t91_p : Option Addr) (t91_n : Nat) (t91_c : Nat) (t92_p : Option Addr) (t92_n : Nat) (t92_c : Nat), Loads P 30 ⟨r_1, 0, none⟩ (.agg #[(.bool t90), (.slice t91_p t91_n t91_c), (.slice t92_p t92_n t92_c)]) wv_2 ∧ Calls P 68 ⟨[(.agg #[(.bool t80), (.slice t81_p t81_n t81_c), (.slice t82_p t82_n t82_c)]), (.agg #[(.bool t90), (.slice t91_p t91_n t91_c), (.slice t92_p t92_n t92_c)])]⟩ wv_2 fun e wv_3 =>
 ∃ (t10 : Bool), e = .returned (.bool t10) ∧
 ((!t10) = true →
 ∃ wv_4, Stores P 30 ⟨r_2, 0, none⟩ (.agg #[(.bool false), (.slice none 0 0), (.slice none 0 0)]) wv_3 wv_4 ∧
 ∃ (r0_1 : Bool) (r1_p_1 : Option Addr) (r1_n_1 : Nat) (r1_c_1 : Nat) (r2_p_1 : Option Addr) (r2_n_1 : Nat) (r2_c_1 : Nat), Loads P 30 ⟨r_2, 0, none⟩ (.agg #[(.bool r0_1), (.slice r1_p_1 r1_n_1 r1_c_1), (.slice r2_p_1 r2_n_1 r2_c_1)]) wv_4 ∧ R (.tuple #[(.agg #[(.bool r0_1), (.slice r1_p_1 r1_n_1 r1_c_1), (.slice r2_p_1 r2_n_1 r2_c_1)]), (.bool false)]) wv_4) ∧
 ((!t10) = false →
 ∃ (t130 : Bool) (t131_p : Option Addr) (t131_n : Nat) (t131_c : Nat) (t132_p : Option Addr) (t132_n : Nat) (t132_c : Nat), (∀ wv_5, Ext wv_3.drew wv_5 → Loads P 30 ⟨r, 0, none⟩ (.agg #[(.bool t130), (.slice t131_p t131_n t131_c), (.slice t132_p t132_n t132_c)]) wv_5) ∧ ∃ (t150 : Bool) (t151_p : Option Addr) (t151_n : Nat) (t151_c : Nat) (t152_p : Option Addr) (t152_n : Nat) (t152_c : Nat), (∀ wv_6, Ext wv_3.drew wv_6 → Loads P 30 ⟨r_1, 0, none⟩ (.agg #[(.bool t150), (.slice t151_p t151_n t151_c), (.slice t152_p t152_n t152_c)]) wv_6) ∧ ∃ (t19_p : Option Addr) (t19_n : Nat) (t19_c : Nat), (∀ wv_7, Ext wv_3.drew.drew wv_7 → Loads P 23 ((⟨r_1, 0, none⟩ : Addr).add 2) (.slice t19_p t19_n t19_c) wv_7) ∧ CallW P (.func (.func 74) #[(.agg #[(.bool t130), (.slice t131_p t131_n t131_c), (.slice t132_p t132_n t132_c)])] #[]) [(.slice t19_p t19_n t19_c)] wv_3.drew.drew fun e_1 wv_8 =>
 ∃ (t200 : Bool) (t201_p : Option Addr) (t201_n : Nat) (t201_c : Nat), e_1 = .returned (.agg #[(.bool t200), (.slice t201_p t201_n t201_c)]) ∧
 Ext wv_3.drew.drew wv_8 ∧ ∃ (t23_p : Option Addr) (t23_n : Nat) (t23_c : Nat), (∀ wv_9, Ext wv_3.drew.drew wv_9 → Loads P 23 ((⟨r, 0, none⟩ : Addr).add 2) (.slice t23_p t23_n t23_c) wv_9) ∧ CallW P (.func (.func 74) #[(.agg #[(.bool t150), (.slice t151_p t151_n t151_c), (.slice t152_p t152_n t152_c)])] #[]) [(.slice t23_p t23_n t23_c)] wv_8 fun e_2 wv_10 =>
 ∃ (t240 : Bool) (t241_p : Option Addr) (t241_n : Nat) (t241_c : Nat), e_2 = .returned (.agg #[(.bool t240), (.slice t241_p t241_n t241_c)]) ∧
 Ext wv_8 wv_10 ∧ Calls P 75 ⟨[(.agg #[(.bool t200), (.slice t201_p t201_n t201_c)]), (.agg #[(.bool t240), (.slice t241_p t241_n t241_c)])]⟩ wv_10 fun e_3 wv_11 =>
 ∃ (t250 : Bool) (t251_p : Option Addr) (t251_n : Nat) (t251_c : Nat), e_3 = .returned (.agg #[(.bool t250), (.slice t251_p t251_n t251_c)]) ∧
 Ext wv_10 wv_11 ∧ ∃ (t27_p : Option Addr) (t27_n : Nat) (t27_c : Nat), (∀ wv_12, Ext wv_3.drew.drew wv_12 → Loads P 23 ((⟨r, 0, none⟩ : Addr).add 2) (.slice t27_p t27_n t27_c) wv_12) ∧ ∃ (t29_p : Option Addr) (t29_n : Nat) (t29_c : Nat), (∀ wv_13, Ext wv_3.drew.drew wv_13 → Loads P 23 ((⟨r_1, 0, none⟩ : Addr).add 2) (.slice t29_p t29_n t29_c) wv_13) ∧ Calls P 71 ⟨[(.slice t27_p t27_n t27_c), (.slice t29_p t29_n t29_c)]⟩ wv_11 fun e_4 wv_14 =>
 ∃ (t30_p : Option Addr) (t30_n : Nat) (t30_c : Nat), e_4 = .returned (.slice t30_p t30_n t30_c) ∧
 Calls P 69 ⟨[(.agg #[(.bool t250), (.slice t251_p t251_n t251_c)]), (.slice t30_p t30_n t30_c)]⟩ wv_14 fun e_5 wv_15 =>
 ∃ (t310 : Bool) (t311_p : Option Addr) (t311_n : Nat) (t311_c : Nat) (t312_p : Option Addr) (t312_n : Nat) (t312_c : Nat) (t31 : Bool), e_5 = .returned (.tuple #[(.agg #[(.bool t310), (.slice t311_p t311_n t311_c), (.slice t312_p t312_n t312_c)]), (.bool t31)]) ∧
 ∃ wv_16, Stores P 30 ⟨r_2, 0, none⟩ (.agg #[(.bool t310), (.slice t311_p t311_n t311_c), (.slice t312_p t312_n t312_c)]) wv_15 wv_16 ∧
 ∃ (r0_2 : Bool) (r1_p_2 : Option Addr) (r1_n_2 : Nat) (r1_c_2 : Nat) (r2_p_2 : Option Addr) (r2_n_2 : Nat) (r2_c_2 : Nat), Loads P 30 ⟨r_2, 0, none⟩ (.agg #[(.bool r0_2), (.slice r1_p_2 r1_n_2 r1_c_2), (.slice r2_p_2 r2_n_2 r2_c_2)]) wv_16 ∧ R (.tuple #[(.agg #[(.bool r0_2), (.slice r1_p_2 r1_n_2 r1_c_2), (.slice r2_p_2 r2_n_2 r2_c_2)]), (.bool t31)]) wv_16)
theorem impl_RatAdd_ret {r0 : Bool} {r1_p : Option Addr} {r1_n : Nat} {r1_c : Nat} {r2_p : Option Addr} {r2_n : Nat} {r2_c : Nat} {s0 : Bool} {s1_p : Option Addr} {s1_n : Nat} {s1_c : Nat} {s2_p : Option Addr} {s2_n : Nat} {s2_c : Nat} {w : World} {R : Value → World → Prop} (h : impl_RatAdd r0 r1_p r1_n r1_c r2_p r2_n r2_c s0 s1_p s1_n s1_c s2_p s2_n s2_c w R) : Ret P 41 [(.agg #[(.bool r0), (.slice r1_p r1_n r1_c), (.slice r2_p r2_n r2_c)]), (.agg #[(.bool s0), (.slice s1_p s1_n s1_c), (.slice s2_p s2_n s2_c)])] w R :=
  Ret.of_fsem Tryz.func41 rfl (Eq.mp (show _ = fsem P Tryz.f41 (fun k => []) _ R w from by kernel_rfl) h)
def spec_l01In (n : Int) (lo : Int) (hi : Int) (w : World) (R : Value → World → Prop) : Prop :=
 ((decide ((lo : Int) ≤ n)) = true →
 R (.bool (decide ((n : Int) ≤ hi))) w) ∧
 ((decide ((lo : Int) ≤ n)) = false →
 R (.bool false) w)
theorem spec_l01In_ret {n : Int} {lo : Int} {hi : Int} {w : World} {R : Value → World → Prop} (h : spec_l01In n lo hi w R) : Ret P 48 [(.int .i64 n), (.int .i64 lo), (.int .i64 hi)] w R :=
  Ret.of_fsem Tryz.func48 rfl (Eq.mp (show _ = fsem P Tryz.f48 (fun k => []) _ R w from by kernel_rfl) h)
def spec_TaxRateOk (r0 : Bool) (r1_p : Option Addr) (r1_n : Nat) (r1_c : Nat) (r2 : Int) (w : World) (R : Value → World → Prop) : Prop :=
 ∀ (r : Nat) (wv : World), New w (.cells ⟨[(.bool r0), (.slice r1_p r1_n r1_c), (.int .i64 r2)]⟩ 58 (0, 0)) r wv →
 ∃ (t30 : Bool) (t31_p : Option Addr) (t31_n : Nat) (t31_c : Nat) (t32 : Int), (∀ wv_1, Ext wv.drew wv_1 → Loads P 58 ⟨r, 0, none⟩ (.agg #[(.bool t30), (.slice t31_p t31_n t31_c), (.int .i64 t32)]) wv_1) ∧ Calls P 60 ⟨[(.agg #[(.bool t30), (.slice t31_p t31_n t31_c), (.int .i64 t32)])]⟩ wv.drew fun e wv_2 =>
 ∃ (t4 : Bool), e = .returned (.bool t4) ∧
 (t4 = true →
 ∃ (t8 : Bool), (∀ wv_3, Ext wv_2 wv_3 → Loads P 4 (((⟨r, 0, none⟩ : Addr).add 0).add 0) (.bool t8) wv_3) ∧ ((!t8) = true →
 ∃ (t14_p : Option Addr) (t14_n : Nat) (t14_c : Nat), (∀ wv_4, Ext wv_2 wv_4 → Loads P 23 (((⟨r, 0, none⟩ : Addr).add 0).add 1) (.slice t14_p t14_n t14_c) wv_4) ∧ ((decide ((((t14_n : Nat) : Int) : Int) ≤ 1)) = true →
 ∃ (t190 : Bool) (t191_p : Option Addr) (t191_n : Nat) (t191_c : Nat) (t192 : Int), (∀ wv_5, Ext wv_2 wv_5 → Loads P 58 ⟨r, 0, none⟩ (.agg #[(.bool t190), (.slice t191_p t191_n t191_c), (.int .i64 t192)]) wv_5) ∧ Calls P 26 ⟨[(.int .i64 1)]⟩ wv_2 fun e_1 wv_6 =>
 ∃ (t200 : Bool) (t201_p : Option Addr) (t201_n : Nat) (t201_c : Nat), e_1 = .returned (.agg #[(.bool t200), (.slice t201_p t201_n t201_c)]) ∧
 Ext wv_2 wv_6 ∧ Calls P 77 ⟨[(.agg #[(.bool t190), (.slice t191_p t191_n t191_c), (.int .i64 t192)]), (.agg #[(.bool t200), (.slice t201_p t201_n t201_c), (.int .i64 0)])]⟩ wv_6 fun e_2 wv_7 =>
 ∃ (t22 : Int), e_2 = .returned (.int .i64 t22) ∧
 R (.bool (decide ((t22 : Int) ≤ 0))) wv_7) ∧
 ((decide ((((t14_n : Nat) : Int) : Int) ≤ 1)) = false →
 R (.bool false) wv_2)) ∧
 ((!t8) = false →
 (false = true →
 ∃ (t190_1 : Bool) (t191_p_1 : Option Addr) (t191_n_1 : Nat) (t191_c_1 : Nat) (t192_1 : Int), (∀ wv_8, Ext wv_2 wv_8 → Loads P 58 ⟨r, 0, none⟩ (.agg #[(.bool t190_1), (.slice t191_p_1 t191_n_1 t191_c_1), (.int .i64 t192_1)]) wv_8) ∧ Calls P 26 ⟨[(.int .i64 1)]⟩ wv_2 fun e_3 wv_9 =>
 ∃ (t200_1 : Bool) (t201_p_1 : Option Addr) (t201_n_1 : Nat) (t201_c_1 : Nat), e_3 = .returned (.agg #[(.bool t200_1), (.slice t201_p_1 t201_n_1 t201_c_1)]) ∧
 Ext wv_2 wv_9 ∧ Calls P 77 ⟨[(.agg #[(.bool t190_1), (.slice t191_p_1 t191_n_1 t191_c_1), (.int .i64 t192_1)]), (.agg #[(.bool t200_1), (.slice t201_p_1 t201_n_1 t201_c_1), (.int .i64 0)])]⟩ wv_9 fun e_4 wv_10 =>
 ∃ (t22_1 : Int), e_4 = .returned (.int .i64 t22_1) ∧
 R (.bool (decide ((t22_1 : Int) ≤ 0))) wv_10) ∧
 (false = false →
 R (.bool false) wv_2))) ∧
 (t4 = false →
 (false = true →
 ∃ (t14_p_1 : Option Addr) (t14_n_1 : Nat) (t14_c_1 : Nat), (∀ wv_11, Ext wv_2 wv_11 → Loads P 23 (((⟨r, 0, none⟩ : Addr).add 0).add 1) (.slice t14_p_1 t14_n_1 t14_c_1) wv_11) ∧ ((decide ((((t14_n_1 : Nat) : Int) : Int) ≤ 1)) = true →
 ∃ (t190_2 : Bool) (t191_p_2 : Option Addr) (t191_n_2 : Nat) (t191_c_2 : Nat) (t192_2 : Int), (∀ wv_12, Ext wv_2 wv_12 → Loads P 58 ⟨r, 0, none⟩ (.agg #[(.bool t190_2), (.slice t191_p_2 t191_n_2 t191_c_2), (.int .i64 t192_2)]) wv_12) ∧ Calls P 26 ⟨[(.int .i64 1)]⟩ wv_2 fun e_5 wv_13 =>
 ∃ (t200_2 : Bool) (t201_p_2 : Option Addr) (t201_n_2 : Nat) (t201_c_2 : Nat), e_5 = .returned (.agg #[(.bool t200_2), (.slice t201_p_2 t201_n_2 t201_c_2)]) ∧
 Ext wv_2 wv_13 ∧ Calls P 77 ⟨[(.agg #[(.bool t190_2), (.slice t191_p_2 t191_n_2 t191_c_2), (.int .i64 t192_2)]), (.agg #[(.bool t200_2), (.slice t201_p_2 t201_n_2 t201_c_2), (.int .i64 0)])]⟩ wv_13 fun e_6 wv_14 =>
 ∃ (t22_2 : Int), e_6 = .returned (.int .i64 t22_2) ∧
 R (.bool (decide ((t22_2 : Int) ≤ 0))) wv_14) ∧
 ((decide ((((t14_n_1 : Nat) : Int) : Int) ≤ 1)) = false →
 R (.bool false) wv_2)) ∧
 (false = false →
 (false = true →
 ∃ (t190_3 : Bool) (t191_p_3 : Option Addr) (t191_n_3 : Nat) (t191_c_3 : Nat) (t192_3 : Int), (∀ wv_15, Ext wv_2 wv_15 → Loads P 58 ⟨r, 0, none⟩ (.agg #[(.bool t190_3), (.slice t191_p_3 t191_n_3 t191_c_3), (.int .i64 t192_3)]) wv_15) ∧ Calls P 26 ⟨[(.int .i64 1)]⟩ wv_2 fun e_7 wv_16 =>
 ∃ (t200_3 : Bool) (t201_p_3 : Option Addr) (t201_n_3 : Nat) (t201_c_3 : Nat), e_7 = .returned (.agg #[(.bool t200_3), (.slice t201_p_3 t201_n_3 t201_c_3)]) ∧
 Ext wv_2 wv_16 ∧ Calls P 77 ⟨[(.agg #[(.bool t190_3), (.slice t191_p_3 t191_n_3 t191_c_3), (.int .i64 t192_3)]), (.agg #[(.bool t200_3), (.slice t201_p_3 t201_n_3 t201_c_3), (.int .i64 0)])]⟩ wv_16 fun e_8 wv_17 =>
 ∃ (t22_3 : Int), e_8 = .returned (.int .i64 t22_3) ∧
 R (.bool (decide ((t22_3 : Int) ≤ 0))) wv_17) ∧
 (false = false →
 R (.bool false) wv_2)))
theorem spec_TaxRateOk_ret {r0 : Bool} {r1_p : Option Addr} {r1_n : Nat} {r1_c : Nat} {r2 : Int} {w : World} {R : Value → World → Prop} (h : spec_TaxRateOk r0 r1_p r1_n r1_c r2 w R) : Ret P 49 [(.agg #[(.bool r0), (.slice r1_p r1_n r1_c), (.int .i64 r2)])] w R :=
  Ret.of_fsem Tryz.func49 rfl (Eq.mp (show _ = fsem P Tryz.f49 (fun k => []) _ R w from by kernel_rfl) h)
def spec_NatOk (a_p : Option Addr) (a_n : Nat) (a_c : Nat) (w : World) (R : Value → World → Prop) : Prop :=
 ∃ (Inv : Int → World → Prop) (mu : Int → World → Nat), Inv 0 w ∧
 ∀ (junk : Fr) (wv : World) (t7 : Int), Inv t7 wv →
 ((decide ((t7 : Int) < ((a_n : Nat) : Int))) = true →
 (0 ≤ (t7 : Int) ∧ (t7 : Int) < (a_n : Nat)) ∧ ptrS a_p fun ad => ∃ (t10 : Int), Loads P 3 (ad.add (t7.toNat * 1)) (.int .i64 t10) wv ∧ Calls P 48 ⟨[(.int .i64 t10), (.int .i64 0), (.int .i64 999999999)]⟩ wv fun e wv_1 =>
 ∃ (t12 : Bool), e = .returned (.bool t12) ∧
 ((!t12) = true →
 R (.bool false) wv_1) ∧
 ((!t12) = false →
 ∃ t14 : Int, t14 = IntKind.wrap .i64 (t7 + 1) ∧ Inv t14 wv_1 ∧ mu t14 wv_1 < mu t7 wv)) ∧
 ((decide ((t7 : Int) < ((a_n : Nat) : Int))) = false →
 ((decide ((((a_n : Nat) : Int) : Int) ≤ 50)) = true →
 ((decide ((((a_n : Nat) : Int) : Int) = 0)) = true →
 R (.bool true) wv) ∧
 ((decide ((((a_n : Nat) : Int) : Int) = 0)) = false →
 ∃ t26 : Int, t26 = IntKind.wrap .i64 (((a_n : Nat) : Int) - 1) ∧ (0 ≤ (t26 : Int) ∧ (t26 : Int) < (a_n : Nat)) ∧ ptrS a_p fun ad_1 => ∃ (t28 : Int), Loads P 3 (ad_1.add (t26.toNat * 1)) (.int .i64 t28) wv ∧ R (.bool (decide ((t28 : Int) ≠ 0))) wv)) ∧
 ((decide ((((a_n : Nat) : Int) : Int) ≤ 50)) = false →
 R (.bool false) wv))
theorem spec_NatOk_ret {a_p : Option Addr} {a_n : Nat} {a_c : Nat} {w : World} {R : Value → World → Prop} (h : spec_NatOk a_p a_n a_c w R) : Ret P 50 [(.slice a_p a_n a_c)] w R :=
  Ret.of_fsem Tryz.func50 rfl (Eq.mp (show _ = fsem P Tryz.f50 (fun k => cond (Nat.beq k 3) [(7, .one (.int .i64))] ([])) _ R w from by kernel_rfl) h)
def spec_l04Make (neg : Bool) (a_p : Option Addr) (a_n : Nat) (a_c : Nat) (w : World) (R : Value → World → Prop) : Prop :=
 ∀ (r : Nat) (wv : World), New w (.cells ⟨[(.bool false), (.slice none 0 0)]⟩ 28 (0, 0)) r wv →
 Calls P 78 ⟨[(.slice a_p a_n a_c)]⟩ wv fun e wv_1 =>
 ∃ (t7_p : Option Addr) (t7_n : Nat) (t7_c : Nat), e = .returned (.slice t7_p t7_n t7_c) ∧
 (neg = true →
 ∀ (r_1 : Nat) (wv_2 : World), New wv_1 (.cells ⟨[]⟩ 3 (0, 0)) r_1 wv_2 →
 ∃ (t16_p : Option Addr) (t16_n : Nat) (t16_c : Nat) (wv_3 : World), Appends P [23, 23] [(.slice (some ⟨r_1, 0, none⟩) 0 0), (.slice t7_p t7_n t7_c)] (.slice t16_p t16_n t16_c) wv_2 wv_3 ∧
 ∃ wv_4, Stores P 28 ⟨r, 0, none⟩ (.agg #[(.bool (decide ((0 : Int) < ((t7_n : Nat) : Int)))), (.slice t16_p t16_n t16_c)]) wv_3 wv_4 ∧
 ∃ (r0 : Bool) (r1_p : Option Addr) (r1_n : Nat) (r1_c : Nat), Loads P 28 ⟨r, 0, none⟩ (.agg #[(.bool r0), (.slice r1_p r1_n r1_c)]) wv_4 ∧ R (.agg #[(.bool r0), (.slice r1_p r1_n r1_c)]) wv_4) ∧
 (neg = false →
 ∀ (r_2 : Nat) (wv_5 : World), New wv_1 (.cells ⟨[]⟩ 3 (0, 0)) r_2 wv_5 →
 ∃ (t16_p_1 : Option Addr) (t16_n_1 : Nat) (t16_c_1 : Nat) (wv_6 : World), Appends P [23, 23] [(.slice (some ⟨r_2, 0, none⟩) 0 0), (.slice t7_p t7_n t7_c)] (.slice t16_p_1 t16_n_1 t16_c_1) wv_5 wv_6 ∧
 ∃ wv_7, Stores P 28 ⟨r, 0, none⟩ (.agg #[(.bool false), (.slice t16_p_1 t16_n_1 t16_c_1)]) wv_6 wv_7 ∧
 ∃ (r0_1 : Bool) (r1_p_1 : Option Addr) (r1_n_1 : Nat) (r1_c_1 : Nat), Loads P 28 ⟨r, 0, none⟩ (.agg #[(.bool r0_1), (.slice r1_p_1 r1_n_1 r1_c_1)]) wv_7 ∧ R (.agg #[(.bool r0_1), (.slice r1_p_1 r1_n_1 r1_c_1)]) wv_7)
theorem spec_l04Make_ret {neg : Bool} {a_p : Option Addr} {a_n : Nat} {a_c : Nat} {w : World} {R : Value → World → Prop} (h : spec_l04Make neg a_p a_n a_c w R) : Ret P 51 [(.bool neg), (.slice a_p a_n a_c)] w R :=
  Ret.of_fsem Tryz.func51 rfl (Eq.mp (show _ = fsem P Tryz.f51 (fun k => []) _ R w from by kernel_rfl) h)
def spec_IntCmp_j1 (r : Nat) (r_1 : Nat) (t14 : Bool) (W_1 : World) (R : Value → World → Prop) : Prop :=
 (t14 = true →
 R (.int .i64 (-1)) W_1) ∧
 (t14 = false →
 ∃ (t24 : Bool), Loads P 4 ((⟨r, 0, none⟩ : Addr).add 0) (.bool t24) W_1 ∧ ((!t24) = true →
 ∃ (t28 : Bool), Loads P 4 ((⟨r_1, 0, none⟩ : Addr).add 0) (.bool t28) W_1 ∧ (t28 = true →
 R (.int .i64 1) W_1) ∧
 (t28 = false →
 ∃ (t32 : Bool), Loads P 4 ((⟨r, 0, none⟩ : Addr).add 0) (.bool t32) W_1 ∧ (t32 = true →
 ∃ (t34_p : Option Addr) (t34_n : Nat) (t34_c : Nat), Loads P 23 ((⟨r_1, 0, none⟩ : Addr).add 1) (.slice t34_p t34_n t34_c) W_1 ∧ ∃ (t36_p : Option Addr) (t36_n : Nat) (t36_c : Nat), Loads P 23 ((⟨r, 0, none⟩ : Addr).add 1) (.slice t36_p t36_n t36_c) W_1 ∧ Calls P 79 ⟨[(.slice t34_p t34_n t34_c), (.slice t36_p t36_n t36_c)]⟩ W_1 fun e_1 wv_3 =>
 ∃ (t37 : Int), e_1 = .returned (.int .i64 t37) ∧
 R (.int .i64 t37) wv_3) ∧
 (t32 = false →
 ∃ (t39_p : Option Addr) (t39_n : Nat) (t39_c : Nat), Loads P 23 ((⟨r, 0, none⟩ : Addr).add 1) (.slice t39_p t39_n t39_c) W_1 ∧ ∃ (t41_p : Option Addr) (t41_n : Nat) (t41_c : Nat), Loads P 23 ((⟨r_1, 0, none⟩ : Addr).add 1) (.slice t41_p t41_n t41_c) W_1 ∧ Calls P 79 ⟨[(.slice t39_p t39_n t39_c), (.slice t41_p t41_n t41_c)]⟩ W_1 fun e_2 wv_4 =>
 ∃ (t42 : Int), e_2 = .returned (.int .i64 t42) ∧
 R (.int .i64 t42) wv_4))) ∧
 ((!t24) = false →
 (false = true →
 R (.int .i64 1) W_1) ∧
 (false = false →
 ∃ (t32_1 : Bool), Loads P 4 ((⟨r, 0, none⟩ : Addr).add 0) (.bool t32_1) W_1 ∧ (t32_1 = true →
 ∃ (t34_p_1 : Option Addr) (t34_n_1 : Nat) (t34_c_1 : Nat), Loads P 23 ((⟨r_1, 0, none⟩ : Addr).add 1) (.slice t34_p_1 t34_n_1 t34_c_1) W_1 ∧ ∃ (t36_p_1 : Option Addr) (t36_n_1 : Nat) (t36_c_1 : Nat), Loads P 23 ((⟨r, 0, none⟩ : Addr).add 1) (.slice t36_p_1 t36_n_1 t36_c_1) W_1 ∧ Calls P 79 ⟨[(.slice t34_p_1 t34_n_1 t34_c_1), (.slice t36_p_1 t36_n_1 t36_c_1)]⟩ W_1 fun e_3 wv_5 =>
 ∃ (t37_1 : Int), e_3 = .returned (.int .i64 t37_1) ∧
 R (.int .i64 t37_1) wv_5) ∧
 (t32_1 = false →
 ∃ (t39_p_1 : Option Addr) (t39_n_1 : Nat) (t39_c_1 : Nat), Loads P 23 ((⟨r, 0, none⟩ : Addr).add 1) (.slice t39_p_1 t39_n_1 t39_c_1) W_1 ∧ ∃ (t41_p_1 : Option Addr) (t41_n_1 : Nat) (t41_c_1 : Nat), Loads P 23 ((⟨r_1, 0, none⟩ : Addr).add 1) (.slice t41_p_1 t41_n_1 t41_c_1) W_1 ∧ Calls P 79 ⟨[(.slice t39_p_1 t39_n_1 t39_c_1), (.slice t41_p_1 t41_n_1 t41_c_1)]⟩ W_1 fun e_4 wv_6 =>
 ∃ (t42_1 : Int), e_4 = .returned (.int .i64 t42_1) ∧
 R (.int .i64 t42_1) wv_6))))
def spec_IntCmp_j0 (r : Nat) (r_1 : Nat) (t5 : Bool) (W : World) (R : Value → World → Prop) : Prop :=
 (t5 = true →
 R (.int .i64 0) W) ∧
 (t5 = false →
 ∃ (t16 : Bool), Loads P 4 ((⟨r, 0, none⟩ : Addr).add 0) (.bool t16) W ∧ (t16 = true →
 ∃ (t19 : Bool), Loads P 4 ((⟨r_1, 0, none⟩ : Addr).add 0) (.bool t19) W ∧ spec_IntCmp_j1 r r_1 (!t19) W R) ∧
 (t16 = false →
 spec_IntCmp_j1 r r_1 false W R))
def spec_IntCmp (x0 : Bool) (x1_p : Option Addr) (x1_n : Nat) (x1_c : Nat) (y0 : Bool) (y1_p : Option Addr) (y1_n : Nat) (y1_c : Nat) (w : World) (R : Value → World → Prop) : Prop :=
 ∀ (r : Nat) (wv : World), New w (.cells ⟨[(.bool x0), (.slice x1_p x1_n x1_c)]⟩ 28 (0, 0)) r wv →
 ∀ (r_1 : Nat) (wv_1 : World), New wv (.cells ⟨[(.bool y0), (.slice y1_p y1_n y1_c)]⟩ 28 (0, 0)) r_1 wv_1 →
 ∃ (t60 : Bool) (t61_p : Option Addr) (t61_n : Nat) (t61_c : Nat), Loads P 28 ⟨r, 0, none⟩ (.agg #[(.bool t60), (.slice t61_p t61_n t61_c)]) wv_1 ∧ Calls P 20 ⟨[(.agg #[(.bool t60), (.slice t61_p t61_n t61_c)])]⟩ wv_1 fun e wv_2 =>
 ∃ (t7 : Bool), e = .returned (.bool t7) ∧
 ((!t7) = true →
 spec_IntCmp_j0 r r_1 true wv_2 R) ∧
 ((!t7) = false →
 ∃ (t100 : Bool) (t101_p : Option Addr) (t101_n : Nat) (t101_c : Nat), Loads P 28 ⟨r_1, 0, none⟩ (.agg #[(.bool t100), (.slice t101_p t101_n t101_c)]) wv_2 ∧ Calls P 20 ⟨[(.agg #[(.bool t100), (.slice t101_p t101_n t101_c)])]⟩ wv_2 fun e_5 wv_7 =>
 ∃ (t11 : Bool), e_5 = .returned (.bool t11) ∧
 spec_IntCmp_j0 r r_1 (!t11) wv_7 R)
theorem spec_IntCmp_ret {x0 : Bool} {x1_p : Option Addr} {x1_n : Nat} {x1_c : Nat} {y0 : Bool} {y1_p : Option Addr} {y1_n : Nat} {y1_c : Nat} {w : World} {R : Value → World → Prop} (h : spec_IntCmp x0 x1_p x1_n x1_c y0 y1_p y1_n y1_c w R) : Ret P 52 [(.agg #[(.bool x0), (.slice x1_p x1_n x1_c)]), (.agg #[(.bool y0), (.slice y1_p y1_n y1_c)])] w R :=
  Ret.of_fsem Tryz.func52 rfl (Eq.mp (show _ = fsem P Tryz.f52 (fun k => []) _ R w from by kernel_rfl) h)
def spec_RatMake_j0 (r : Nat) (r_1 : Nat) (r_2 : Nat) (W : World) (R : Value → World → Prop) : Prop :=
 ∃ (t16 : Bool), Loads P 4 ((⟨r, 0, none⟩ : Addr).add 0) (.bool t16) W ∧ ∃ (t18 : Bool), Loads P 4 ((⟨r_1, 0, none⟩ : Addr).add 0) (.bool t18) W ∧ ∃ (t21_p : Option Addr) (t21_n : Nat) (t21_c : Nat), Loads P 23 ((⟨r, 0, none⟩ : Addr).add 1) (.slice t21_p t21_n t21_c) W ∧ ∃ (t23_p : Option Addr) (t23_n : Nat) (t23_c : Nat), Loads P 23 ((⟨r_1, 0, none⟩ : Addr).add 1) (.slice t23_p t23_n t23_c) W ∧ Calls P 58 ⟨[(.bool (!(t16 == t18))), (.slice t21_p t21_n t21_c), (.slice t23_p t23_n t23_c)]⟩ W fun e_1 wv_5 =>
 ∃ (t240 : Bool) (t241_p : Option Addr) (t241_n : Nat) (t241_c : Nat) (t242_p : Option Addr) (t242_n : Nat) (t242_c : Nat) (t24 : Bool), e_1 = .returned (.tuple #[(.agg #[(.bool t240), (.slice t241_p t241_n t241_c), (.slice t242_p t242_n t242_c)]), (.bool t24)]) ∧
 ∃ wv_6, Stores P 30 ⟨r_2, 0, none⟩ (.agg #[(.bool t240), (.slice t241_p t241_n t241_c), (.slice t242_p t242_n t242_c)]) wv_5 wv_6 ∧
 ∃ (r0_1 : Bool) (r1_p_1 : Option Addr) (r1_n_1 : Nat) (r1_c_1 : Nat) (r2_p_1 : Option Addr) (r2_n_1 : Nat) (r2_c_1 : Nat), Loads P 30 ⟨r_2, 0, none⟩ (.agg #[(.bool r0_1), (.slice r1_p_1 r1_n_1 r1_c_1), (.slice r2_p_1 r2_n_1 r2_c_1)]) wv_6 ∧ R (.tuple #[(.agg #[(.bool r0_1), (.slice r1_p_1 r1_n_1 r1_c_1), (.slice r2_p_1 r2_n_1 r2_c_1)]), (.bool t24)]) wv_6
def spec_RatMake (num0 : Bool) (num1_p : Option Addr) (num1_n : Nat) (num1_c : Nat) (den0 : Bool) (den1_p : Option Addr) (den1_n : Nat) (den1_c : Nat) (w : World) (R : Value → World → Prop) : Prop :=
 ∀ (r : Nat) (wv : World), New w (.cells ⟨[(.bool num0), (.slice num1_p num1_n num1_c)]⟩ 28 (0, 0)) r wv →
 ∀ (r_1 : Nat) (wv_1 : World), New wv (.cells ⟨[(.bool den0), (.slice den1_p den1_n den1_c)]⟩ 28 (0, 0)) r_1 wv_1 →
 ∀ (r_2 : Nat) (wv_2 : World), New wv_1 (.cells ⟨[(.bool false), (.slice none 0 0), (.slice none 0 0)]⟩ 30 (0, 0)) r_2 wv_2 →
 ∃ (t60 : Bool) (t61_p : Option Addr) (t61_n : Nat) (t61_c : Nat), Loads P 28 ⟨r, 0, none⟩ (.agg #[(.bool t60), (.slice t61_p t61_n t61_c)]) wv_2 ∧ Calls P 20 ⟨[(.agg #[(.bool t60), (.slice t61_p t61_n t61_c)])]⟩ wv_2 fun e wv_3 =>
 ∃ (t7 : Bool), e = .returned (.bool t7) ∧
 ((!t7) = true →
 (true = true →
 ∃ wv_4, Stores P 30 ⟨r_2, 0, none⟩ (.agg #[(.bool false), (.slice none 0 0), (.slice none 0 0)]) wv_3 wv_4 ∧
 ∃ (r0 : Bool) (r1_p : Option Addr) (r1_n : Nat) (r1_c : Nat) (r2_p : Option Addr) (r2_n : Nat) (r2_c : Nat), Loads P 30 ⟨r_2, 0, none⟩ (.agg #[(.bool r0), (.slice r1_p r1_n r1_c), (.slice r2_p r2_n r2_c)]) wv_4 ∧ R (.tuple #[(.agg #[(.bool r0), (.slice r1_p r1_n r1_c), (.slice r2_p r2_n r2_c)]), (.bool false)]) wv_4) ∧
 (true = false →
 spec_RatMake_j0 r r_1 r_2 wv_3 R)) ∧
 ((!t7) = false →
 ∃ (t100 : Bool) (t101_p : Option Addr) (t101_n : Nat) (t101_c : Nat), Loads P 28 ⟨r_1, 0, none⟩ (.agg #[(.bool t100), (.slice t101_p t101_n t101_c)]) wv_3 ∧ Calls P 20 ⟨[(.agg #[(.bool t100), (.slice t101_p t101_n t101_c)])]⟩ wv_3 fun e_2 wv_7 =>
 ∃ (t11 : Bool), e_2 = .returned (.bool t11) ∧
 ((!t11) = true →
 ∃ wv_8, Stores P 30 ⟨r_2, 0, none⟩ (.agg #[(.bool false), (.slice none 0 0), (.slice none 0 0)]) wv_7 wv_8 ∧
 ∃ (r0_2 : Bool) (r1_p_2 : Option Addr) (r1_n_2 : Nat) (r1_c_2 : Nat) (r2_p_2 : Option Addr) (r2_n_2 : Nat) (r2_c_2 : Nat), Loads P 30 ⟨r_2, 0, none⟩ (.agg #[(.bool r0_2), (.slice r1_p_2 r1_n_2 r1_c_2), (.slice r2_p_2 r2_n_2 r2_c_2)]) wv_8 ∧ R (.tuple #[(.agg #[(.bool r0_2), (.slice r1_p_2 r1_n_2 r1_c_2), (.slice r2_p_2 r2_n_2 r2_c_2)]), (.bool false)]) wv_8) ∧
 ((!t11) = false →
 spec_RatMake_j0 r r_1 r_2 wv_7 R))
theorem spec_RatMake_ret {num0 : Bool} {num1_p : Option Addr} {num1_n : Nat} {num1_c : Nat} {den0 : Bool} {den1_p : Option Addr} {den1_n : Nat} {den1_c : Nat} {w : World} {R : Value → World → Prop} (h : spec_RatMake num0 num1_p num1_n num1_c den0 den1_p den1_n den1_c w R) : Ret P 53 [(.agg #[(.bool num0), (.slice num1_p num1_n num1_c)]), (.agg #[(.bool den0), (.slice den1_p den1_n den1_c)])] w R :=
  Ret.of_fsem Tryz.func53 rfl (Eq.mp (show _ = fsem P Tryz.f53 (fun k => []) _ R w from by kernel_rfl) h)
def spec_l04Add (x0 : Bool) (x1_p : Option Addr) (x1_n : Nat) (x1_c : Nat) (y0 : Bool) (y1_p : Option Addr) (y1_n : Nat) (y1_c : Nat) (w : World) (R : Value → World → Prop) : Prop :=
 ∀ (r : Nat) (wv : World), New w (.cells ⟨[(.bool x0), (.slice x1_p x1_n x1_c)]⟩ 28 (0, 0)) r wv →
 ∀ (r_1 : Nat) (wv_1 : World), New wv (.cells ⟨[(.bool y0), (.slice y1_p y1_n y1_c)]⟩ 28 (0, 0)) r_1 wv_1 →
 ∀ (r_2 : Nat) (wv_2 : World), New wv_1 (.cells ⟨[(.bool false), (.slice none 0 0)]⟩ 28 (0, 0)) r_2 wv_2 →
 ∃ (t6 : Bool), Loads P 4 ((⟨r, 0, none⟩ : Addr).add 0) (.bool t6) wv_2 ∧ ∃ (t8 : Bool), Loads P 4 ((⟨r_1, 0, none⟩ : Addr).add 0) (.bool t8) wv_2 ∧ ((t6 == t8) = true →
 ∃ (t11 : Bool), (∀ wv_3, Ext wv_2.drew wv_3 → Loads P 4 ((⟨r, 0, none⟩ : Addr).add 0) (.bool t11) wv_3) ∧ ∃ (t13_p : Option Addr) (t13_n : Nat) (t13_c : Nat), (∀ wv_4, Ext wv_2.drew wv_4 → Loads P 23 ((⟨r, 0, none⟩ : Addr).add 1) (.slice t13_p t13_n t13_c) wv_4) ∧ ∃ (t15_p : Option Addr) (t15_n : Nat) (t15_c : Nat), (∀ wv_5, Ext wv_2.drew wv_5 → Loads P 23 ((⟨r_1, 0, none⟩ : Addr).add 1) (.slice t15_p t15_n t15_c) wv_5) ∧ Calls P 80 ⟨[(.slice t13_p t13_n t13_c), (.slice t15_p t15_n t15_c)]⟩ wv_2.drew fun e wv_6 =>
 ∃ (t16_p : Option Addr) (t16_n : Nat) (t16_c : Nat), e = .returned (.slice t16_p t16_n t16_c) ∧
 Ext wv_2.drew wv_6 ∧ Calls P 51 ⟨[(.bool t11), (.slice t16_p t16_n t16_c)]⟩ wv_6 fun e_1 wv_7 =>
 ∃ (t170 : Bool) (t171_p : Option Addr) (t171_n : Nat) (t171_c : Nat), e_1 = .returned (.agg #[(.bool t170), (.slice t171_p t171_n t171_c)]) ∧
 ∃ wv_8, Stores P 28 ⟨r_2, 0, none⟩ (.agg #[(.bool t170), (.slice t171_p t171_n t171_c)]) wv_7 wv_8 ∧
 ∃ (r0 : Bool) (r1_p : Option Addr) (r1_n : Nat) (r1_c : Nat), Loads P 28 ⟨r_2, 0, none⟩ (.agg #[(.bool r0), (.slice r1_p r1_n r1_c)]) wv_8 ∧ R (.agg #[(.bool r0), (.slice r1_p r1_n r1_c)]) wv_8) ∧
 ((t6 == t8) = false →
 ∃ (t19_p : Option Addr) (t19_n : Nat) (t19_c : Nat), Loads P 23 ((⟨r, 0, none⟩ : Addr).add 1) (.slice t19_p t19_n t19_c) wv_2 ∧ ∃ (t21_p : Option Addr) (t21_n : Nat) (t21_c : Nat), Loads P 23 ((⟨r_1, 0, none⟩ : Addr).add 1) (.slice t21_p t21_n t21_c) wv_2 ∧ Calls P 79 ⟨[(.slice t19_p t19_n t19_c), (.slice t21_p t21_n t21_c)]⟩ wv_2 fun e_2 wv_9 =>
 ∃ (t22 : Int), e_2 = .returned (.int .i64 t22) ∧
 ((decide ((0 : Int) ≤ t22)) = true →
 ∃ (t25 : Bool), (∀ wv_10, Ext wv_9.drew wv_10 → Loads P 4 ((⟨r, 0, none⟩ : Addr).add 0) (.bool t25) wv_10) ∧ ∃ (t27_p : Option Addr) (t27_n : Nat) (t27_c : Nat), (∀ wv_11, Ext wv_9.drew wv_11 → Loads P 23 ((⟨r, 0, none⟩ : Addr).add 1) (.slice t27_p t27_n t27_c) wv_11) ∧ ∃ (t29_p : Option Addr) (t29_n : Nat) (t29_c : Nat), (∀ wv_12, Ext wv_9.drew wv_12 → Loads P 23 ((⟨r_1, 0, none⟩ : Addr).add 1) (.slice t29_p t29_n t29_c) wv_12) ∧ Calls P 81 ⟨[(.slice t27_p t27_n t27_c), (.slice t29_p t29_n t29_c)]⟩ wv_9.drew fun e_3 wv_13 =>
 ∃ (t30_p : Option Addr) (t30_n : Nat) (t30_c : Nat), e_3 = .returned (.slice t30_p t30_n t30_c) ∧
 Ext wv_9.drew wv_13 ∧ Calls P 51 ⟨[(.bool t25), (.slice t30_p t30_n t30_c)]⟩ wv_13 fun e_4 wv_14 =>
 ∃ (t310 : Bool) (t311_p : Option Addr) (t311_n : Nat) (t311_c : Nat), e_4 = .returned (.agg #[(.bool t310), (.slice t311_p t311_n t311_c)]) ∧
 ∃ wv_15, Stores P 28 ⟨r_2, 0, none⟩ (.agg #[(.bool t310), (.slice t311_p t311_n t311_c)]) wv_14 wv_15 ∧
 ∃ (r0_1 : Bool) (r1_p_1 : Option Addr) (r1_n_1 : Nat) (r1_c_1 : Nat), Loads P 28 ⟨r_2, 0, none⟩ (.agg #[(.bool r0_1), (.slice r1_p_1 r1_n_1 r1_c_1)]) wv_15 ∧ R (.agg #[(.bool r0_1), (.slice r1_p_1 r1_n_1 r1_c_1)]) wv_15) ∧
 ((decide ((0 : Int) ≤ t22)) = false →
 ∃ (t33 : Bool), (∀ wv_16, Ext wv_9.drew wv_16 → Loads P 4 ((⟨r_1, 0, none⟩ : Addr).add 0) (.bool t33) wv_16) ∧ ∃ (t35_p : Option Addr) (t35_n : Nat) (t35_c : Nat), (∀ wv_17, Ext wv_9.drew wv_17 → Loads P 23 ((⟨r_1, 0, none⟩ : Addr).add 1) (.slice t35_p t35_n t35_c) wv_17) ∧ ∃ (t37_p : Option Addr) (t37_n : Nat) (t37_c : Nat), (∀ wv_18, Ext wv_9.drew wv_18 → Loads P 23 ((⟨r, 0, none⟩ : Addr).add 1) (.slice t37_p t37_n t37_c) wv_18) ∧ Calls P 81 ⟨[(.slice t35_p t35_n t35_c), (.slice t37_p t37_n t37_c)]⟩ wv_9.drew fun e_5 wv_19 =>
 ∃ (t38_p : Option Addr) (t38_n : Nat) (t38_c : Nat), e_5 = .returned (.slice t38_p t38_n t38_c) ∧
 Ext wv_9.drew wv_19 ∧ Calls P 51 ⟨[(.bool t33), (.slice t38_p t38_n t38_c)]⟩ wv_19 fun e_6 wv_20 =>
 ∃ (t390 : Bool) (t391_p : Option Addr) (t391_n : Nat) (t391_c : Nat), e_6 = .returned (.agg #[(.bool t390), (.slice t391_p t391_n t391_c)]) ∧
 ∃ wv_21, Stores P 28 ⟨r_2, 0, none⟩ (.agg #[(.bool t390), (.slice t391_p t391_n t391_c)]) wv_20 wv_21 ∧
 ∃ (r0_2 : Bool) (r1_p_2 : Option Addr) (r1_n_2 : Nat) (r1_c_2 : Nat), Loads P 28 ⟨r_2, 0, none⟩ (.agg #[(.bool r0_2), (.slice r1_p_2 r1_n_2 r1_c_2)]) wv_21 ∧ R (.agg #[(.bool r0_2), (.slice r1_p_2 r1_n_2 r1_c_2)]) wv_21))
theorem spec_l04Add_ret {x0 : Bool} {x1_p : Option Addr} {x1_n : Nat} {x1_c : Nat} {y0 : Bool} {y1_p : Option Addr} {y1_n : Nat} {y1_c : Nat} {w : World} {R : Value → World → Prop} (h : spec_l04Add x0 x1_p x1_n x1_c y0 y1_p y1_n y1_c w R) : Ret P 54 [(.agg #[(.bool x0), (.slice x1_p x1_n x1_c)]), (.agg #[(.bool y0), (.slice y1_p y1_n y1_c)])] w R :=
  Ret.of_fsem Tryz.func54 rfl (Eq.mp (show _ = fsem P Tryz.f54 (fun k => []) _ R w from by kernel_rfl) h)
def spec_IntNeg (x0 : Bool) (x1_p : Option Addr) (x1_n : Nat) (x1_c : Nat) (w : World) (R : Value → World → Prop) : Prop :=
 ∀ (r : Nat) (wv : World), New w (.cells ⟨[(.bool x0), (.slice x1_p x1_n x1_c)]⟩ 28 (0, 0)) r wv →
 ∀ (r_1 : Nat) (wv_1 : World), New wv (.cells ⟨[(.bool false), (.slice none 0 0)]⟩ 28 (0, 0)) r_1 wv_1 →
 ∃ (t30 : Bool) (t31_p : Option Addr) (t31_n : Nat) (t31_c : Nat), Loads P 28 ⟨r, 0, none⟩ (.agg #[(.bool t30), (.slice t31_p t31_n t31_c)]) wv_1 ∧ Calls P 20 ⟨[(.agg #[(.bool t30), (.slice t31_p t31_n t31_c)])]⟩ wv_1 fun e wv_2 =>
 ∃ (t4 : Bool), e = .returned (.bool t4) ∧
 ((!t4) = true →
 ∃ wv_3, Stores P 28 ⟨r_1, 0, none⟩ (.agg #[(.bool false), (.slice none 0 0)]) wv_2 wv_3 ∧
 ∃ (r0 : Bool) (r1_p : Option Addr) (r1_n : Nat) (r1_c : Nat), Loads P 28 ⟨r_1, 0, none⟩ (.agg #[(.bool r0), (.slice r1_p r1_n r1_c)]) wv_3 ∧ R (.agg #[(.bool r0), (.slice r1_p r1_n r1_c)]) wv_3) ∧
 ((!t4) = false →
 ∃ (t8 : Bool), Loads P 4 ((⟨r, 0, none⟩ : Addr).add 0) (.bool t8) wv_2 ∧ ∃ (t11_p : Option Addr) (t11_n : Nat) (t11_c : Nat), Loads P 23 ((⟨r, 0, none⟩ : Addr).add 1) (.slice t11_p t11_n t11_c) wv_2 ∧ Calls P 51 ⟨[(.bool (!t8)), (.slice t11_p t11_n t11_c)]⟩ wv_2 fun e_1 wv_4 =>
 ∃ (t120 : Bool) (t121_p : Option Addr) (t121_n : Nat) (t121_c : Nat), e_1 = .returned (.agg #[(.bool t120), (.slice t121_p t121_n t121_c)]) ∧
 ∃ wv_5, Stores P 28 ⟨r_1, 0, none⟩ (.agg #[(.bool t120), (.slice t121_p t121_n t121_c)]) wv_4 wv_5 ∧
 ∃ (r0_1 : Bool) (r1_p_1 : Option Addr) (r1_n_1 : Nat) (r1_c_1 : Nat), Loads P 28 ⟨r_1, 0, none⟩ (.agg #[(.bool r0_1), (.slice r1_p_1 r1_n_1 r1_c_1)]) wv_5 ∧ R (.agg #[(.bool r0_1), (.slice r1_p_1 r1_n_1 r1_c_1)]) wv_5)
theorem spec_IntNeg_ret {x0 : Bool} {x1_p : Option Addr} {x1_n : Nat} {x1_c : Nat} {w : World} {R : Value → World → Prop} (h : spec_IntNeg x0 x1_p x1_n x1_c w R) : Ret P 55 [(.agg #[(.bool x0), (.slice x1_p x1_n x1_c)])] w R :=
  Ret.of_fsem Tryz.func55 rfl (Eq.mp (show _ = fsem P Tryz.f55 (fun k => []) _ R w from by kernel_rfl) h)
def spec_NatOf (n : Int) (w : World) (R : Value → World → Prop) : Prop :=
 ∀ (r : Nat) (wv : World), New w (.cells ⟨[]⟩ 3 (0, 0)) r wv →
 ∃ (Inv : Int → Option Addr → Nat → Nat → World → Prop) (mu : Int → Option Addr → Nat → Nat → World → Nat), Inv n (some ⟨r, 0, none⟩) 0 0 wv ∧
 ∀ (junk : Fr) (wv_1 : World) (n_1 : Int) (out_p : Option Addr) (out_n : Nat) (out_c : Nat), Inv n_1 out_p out_n out_c wv_1 →
 ((decide ((0 : Int) < n_1)) = true →
 (1000000000 : Int) ≠ 0 ∧ ∃ t9 : Int, t9 = Int.tmod n_1 1000000000 ∧ ∀ (r_1 : Nat) (wv_2 : World), New wv_1 (.cells ⟨[(.int .i64 t9)]⟩ 3 (0, 0)) r_1 wv_2 →
 ∃ (t11_p : Option Addr) (t11_n : Nat) (t11_c : Nat) (wv_3 : World), Appends P [23, 23] [(.slice out_p out_n out_c), (.slice (some ⟨r_1, 0, none⟩) 1 1)] (.slice t11_p t11_n t11_c) wv_2 wv_3 ∧
 (1000000000 : Int) ≠ 0 ∧ ∃ t13 : Int, t13 = IntKind.wrap .i64 (Int.tdiv n_1 1000000000) ∧ Inv t13 t11_p t11_n t11_c wv_3 ∧ mu t13 t11_p t11_n t11_c wv_3 < mu n_1 out_p out_n out_c wv_1) ∧
 ((decide ((0 : Int) < n_1)) = false →
 R (.slice out_p out_n out_c) wv_1)
theorem spec_NatOf_ret {n : Int} {w : World} {R : Value → World → Prop} (h : spec_NatOf n w R) : Ret P 56 [(.int .i64 n)] w R :=
  Ret.of_fsem Tryz.func56 rfl (Eq.mp (show _ = fsem P Tryz.f56 (fun k => cond (Nat.beq k 3) [(0, .one (.int .i64)), (3, .one .slice)] ([])) _ R w from by kernel_rfl) h)
def spec_RatOk (r0 : Bool) (r1_p : Option Addr) (r1_n : Nat) (r1_c : Nat) (r2_p : Option Addr) (r2_n : Nat) (r2_c : Nat) (w : World) (R : Value → World → Prop) : Prop :=
 ∀ (r : Nat) (wv : World), New w (.cells ⟨[(.bool r0), (.slice r1_p r1_n r1_c), (.slice r2_p r2_n r2_c)]⟩ 30 (0, 0)) r wv →
 ∃ (t40 : Bool) (t41_p : Option Addr) (t41_n : Nat) (t41_c : Nat), Loads P 28 ((⟨r, 0, none⟩ : Addr).add 0) (.agg #[(.bool t40), (.slice t41_p t41_n t41_c)]) wv ∧ Calls P 20 ⟨[(.agg #[(.bool t40), (.slice t41_p t41_n t41_c)])]⟩ wv fun e wv_1 =>
 ∃ (t5 : Bool), e = .returned (.bool t5) ∧
 ((!t5) = true →
 (true = true →
 (true = true →
 (true = true →
 (true = true →
 R (.bool false) wv_1) ∧
 (true = false →
 ∃ (t34_p : Option Addr) (t34_n : Nat) (t34_c : Nat), Loads P 23 (((⟨r, 0, none⟩ : Addr).add 0).add 1) (.slice t34_p t34_n t34_c) wv_1 ∧ ∃ (t36_p : Option Addr) (t36_n : Nat) (t36_c : Nat), Loads P 23 ((⟨r, 0, none⟩ : Addr).add 2) (.slice t36_p t36_n t36_c) wv_1 ∧ Calls P 82 ⟨[(.slice t34_p t34_n t34_c), (.slice t36_p t36_n t36_c)]⟩ wv_1 fun e_1 wv_2 =>
 ∃ (t37_p : Option Addr) (t37_n : Nat) (t37_c : Nat), e_1 = .returned (.slice t37_p t37_n t37_c) ∧
 ∀ (r_1 : Nat) (wv_3 : World), New wv_2 (.cells ⟨[(.int .i64 1)]⟩ 3 (0, 0)) r_1 wv_3 →
 Calls P 79 ⟨[(.slice t37_p t37_n t37_c), (.slice (some ⟨r_1, 0, none⟩) 1 1)]⟩ wv_3 fun e_2 wv_4 =>
 ∃ (t39 : Int), e_2 = .returned (.int .i64 t39) ∧
 R (.bool (decide ((t39 : Int) = 0))) wv_4)) ∧
 (true = false →
 ∃ (t28_p : Option Addr) (t28_n : Nat) (t28_c : Nat), Loads P 23 (((⟨r, 0, none⟩ : Addr).add 0).add 1) (.slice t28_p t28_n t28_c) wv_1 ∧ ((decide ((18 : Int) < ((t28_n : Nat) : Int))) = true →
 R (.bool false) wv_1) ∧
 ((decide ((18 : Int) < ((t28_n : Nat) : Int))) = false →
 ∃ (t34_p_1 : Option Addr) (t34_n_1 : Nat) (t34_c_1 : Nat), Loads P 23 (((⟨r, 0, none⟩ : Addr).add 0).add 1) (.slice t34_p_1 t34_n_1 t34_c_1) wv_1 ∧ ∃ (t36_p_1 : Option Addr) (t36_n_1 : Nat) (t36_c_1 : Nat), Loads P 23 ((⟨r, 0, none⟩ : Addr).add 2) (.slice t36_p_1 t36_n_1 t36_c_1) wv_1 ∧ Calls P 82 ⟨[(.slice t34_p_1 t34_n_1 t34_c_1), (.slice t36_p_1 t36_n_1 t36_c_1)]⟩ wv_1 fun e_3 wv_5 =>
 ∃ (t37_p_1 : Option Addr) (t37_n_1 : Nat) (t37_c_1 : Nat), e_3 = .returned (.slice t37_p_1 t37_n_1 t37_c_1) ∧
 ∀ (r_2 : Nat) (wv_6 : World), New wv_5 (.cells ⟨[(.int .i64 1)]⟩ 3 (0, 0)) r_2 wv_6 →
 Calls P 79 ⟨[(.slice t37_p_1 t37_n_1 t37_c_1), (.slice (some ⟨r_2, 0, none⟩) 1 1)]⟩ wv_6 fun e_4 wv_7 =>
 ∃ (t39_1 : Int), e_4 = .returned (.int .i64 t39_1) ∧
 R (.bool (decide ((t39_1 : Int) = 0))) wv_7))) ∧
 (true = false →
 ∃ (t21_p : Option Addr) (t21_n : Nat) (t21_c : Nat), Loads P 23 ((⟨r, 0, none⟩ : Addr).add 2) (.slice t21_p t21_n t21_c) wv_1 ∧ ((decide ((18 : Int) < ((t21_n : Nat) : Int))) = true →
 (true = true →
 R (.bool false) wv_1) ∧
 (true = false →
 ∃ (t34_p_2 : Option Addr) (t34_n_2 : Nat) (t34_c_2 : Nat), Loads P 23 (((⟨r, 0, none⟩ : Addr).add 0).add 1) (.slice t34_p_2 t34_n_2 t34_c_2) wv_1 ∧ ∃ (t36_p_2 : Option Addr) (t36_n_2 : Nat) (t36_c_2 : Nat), Loads P 23 ((⟨r, 0, none⟩ : Addr).add 2) (.slice t36_p_2 t36_n_2 t36_c_2) wv_1 ∧ Calls P 82 ⟨[(.slice t34_p_2 t34_n_2 t34_c_2), (.slice t36_p_2 t36_n_2 t36_c_2)]⟩ wv_1 fun e_5 wv_8 =>
 ∃ (t37_p_2 : Option Addr) (t37_n_2 : Nat) (t37_c_2 : Nat), e_5 = .returned (.slice t37_p_2 t37_n_2 t37_c_2) ∧
 ∀ (r_3 : Nat) (wv_9 : World), New wv_8 (.cells ⟨[(.int .i64 1)]⟩ 3 (0, 0)) r_3 wv_9 →
 Calls P 79 ⟨[(.slice t37_p_2 t37_n_2 t37_c_2), (.slice (some ⟨r_3, 0, none⟩) 1 1)]⟩ wv_9 fun e_6 wv_10 =>
 ∃ (t39_2 : Int), e_6 = .returned (.int .i64 t39_2) ∧
 R (.bool (decide ((t39_2 : Int) = 0))) wv_10)) ∧
 ((decide ((18 : Int) < ((t21_n : Nat) : Int))) = false →
 ∃ (t28_p_1 : Option Addr) (t28_n_1 : Nat) (t28_c_1 : Nat), Loads P 23 (((⟨r, 0, none⟩ : Addr).add 0).add 1) (.slice t28_p_1 t28_n_1 t28_c_1) wv_1 ∧ ((decide ((18 : Int) < ((t28_n_1 : Nat) : Int))) = true →
 R (.bool false) wv_1) ∧
 ((decide ((18 : Int) < ((t28_n_1 : Nat) : Int))) = false →
 ∃ (t34_p_3 : Option Addr) (t34_n_3 : Nat) (t34_c_3 : Nat), Loads P 23 (((⟨r, 0, none⟩ : Addr).add 0).add 1) (.slice t34_p_3 t34_n_3 t34_c_3) wv_1 ∧ ∃ (t36_p_3 : Option Addr) (t36_n_3 : Nat) (t36_c_3 : Nat), Loads P 23 ((⟨r, 0, none⟩ : Addr).add 2) (.slice t36_p_3 t36_n_3 t36_c_3) wv_1 ∧ Calls P 82 ⟨[(.slice t34_p_3 t34_n_3 t34_c_3), (.slice t36_p_3 t36_n_3 t36_c_3)]⟩ wv_1 fun e_7 wv_11 =>
 ∃ (t37_p_3 : Option Addr) (t37_n_3 : Nat) (t37_c_3 : Nat), e_7 = .returned (.slice t37_p_3 t37_n_3 t37_c_3) ∧
 ∀ (r_4 : Nat) (wv_12 : World), New wv_11 (.cells ⟨[(.int .i64 1)]⟩ 3 (0, 0)) r_4 wv_12 →
 Calls P 79 ⟨[(.slice t37_p_3 t37_n_3 t37_c_3), (.slice (some ⟨r_4, 0, none⟩) 1 1)]⟩ wv_12 fun e_8 wv_13 =>
 ∃ (t39_3 : Int), e_8 = .returned (.int .i64 t39_3) ∧
 R (.bool (decide ((t39_3 : Int) = 0))) wv_13)))) ∧
 (true = false →
 ∃ (t15_p : Option Addr) (t15_n : Nat) (t15_c : Nat), Loads P 23 ((⟨r, 0, none⟩ : Addr).add 2) (.slice t15_p t15_n t15_c) wv_1 ∧ ((decide ((((t15_n : Nat) : Int) : Int) = 0)) = true →
 (true = true →
 (true = true →
 R (.bool false) wv_1) ∧
 (true = false →
 ∃ (t34_p_4 : Option Addr) (t34_n_4 : Nat) (t34_c_4 : Nat), Loads P 23 (((⟨r, 0, none⟩ : Addr).add 0).add 1) (.slice t34_p_4 t34_n_4 t34_c_4) wv_1 ∧ ∃ (t36_p_4 : Option Addr) (t36_n_4 : Nat) (t36_c_4 : Nat), Loads P 23 ((⟨r, 0, none⟩ : Addr).add 2) (.slice t36_p_4 t36_n_4 t36_c_4) wv_1 ∧ Calls P 82 ⟨[(.slice t34_p_4 t34_n_4 t34_c_4), (.slice t36_p_4 t36_n_4 t36_c_4)]⟩ wv_1 fun e_9 wv_14 =>
 ∃ (t37_p_4 : Option Addr) (t37_n_4 : Nat) (t37_c_4 : Nat), e_9 = .returned (.slice t37_p_4 t37_n_4 t37_c_4) ∧
 ∀ (r_5 : Nat) (wv_15 : World), New wv_14 (.cells ⟨[(.int .i64 1)]⟩ 3 (0, 0)) r_5 wv_15 →
 Calls P 79 ⟨[(.slice t37_p_4 t37_n_4 t37_c_4), (.slice (some ⟨r_5, 0, none⟩) 1 1)]⟩ wv_15 fun e_10 wv_16 =>
 ∃ (t39_4 : Int), e_10 = .returned (.int .i64 t39_4) ∧
 R (.bool (decide ((t39_4 : Int) = 0))) wv_16)) ∧
 (true = false →
 ∃ (t28_p_2 : Option Addr) (t28_n_2 : Nat) (t28_c_2 : Nat), Loads P 23 (((⟨r, 0, none⟩ : Addr).add 0).add 1) (.slice t28_p_2 t28_n_2 t28_c_2) wv_1 ∧ ((decide ((18 : Int) < ((t28_n_2 : Nat) : Int))) = true →
 R (.bool false) wv_1) ∧
 ((decide ((18 : Int) < ((t28_n_2 : Nat) : Int))) = false →
 ∃ (t34_p_5 : Option Addr) (t34_n_5 : Nat) (t34_c_5 : Nat), Loads P 23 (((⟨r, 0, none⟩ : Addr).add 0).add 1) (.slice t34_p_5 t34_n_5 t34_c_5) wv_1 ∧ ∃ (t36_p_5 : Option Addr) (t36_n_5 : Nat) (t36_c_5 : Nat), Loads P 23 ((⟨r, 0, none⟩ : Addr).add 2) (.slice t36_p_5 t36_n_5 t36_c_5) wv_1 ∧ Calls P 82 ⟨[(.slice t34_p_5 t34_n_5 t34_c_5), (.slice t36_p_5 t36_n_5 t36_c_5)]⟩ wv_1 fun e_11 wv_17 =>
 ∃ (t37_p_5 : Option Addr) (t37_n_5 : Nat) (t37_c_5 : Nat), e_11 = .returned (.slice t37_p_5 t37_n_5 t37_c_5) ∧
 ∀ (r_6 : Nat) (wv_18 : World), New wv_17 (.cells ⟨[(.int .i64 1)]⟩ 3 (0, 0)) r_6 wv_18 →
 Calls P 79 ⟨[(.slice t37_p_5 t37_n_5 t37_c_5), (.slice (some ⟨r_6, 0, none⟩) 1 1)]⟩ wv_18 fun e_12 wv_19 =>
 ∃ (t39_5 : Int), e_12 = .returned (.int .i64 t39_5) ∧
 R (.bool (decide ((t39_5 : Int) = 0))) wv_19))) ∧
 ((decide ((((t15_n : Nat) : Int) : Int) = 0)) = false →
 ∃ (t21_p_1 : Option Addr) (t21_n_1 : Nat) (t21_c_1 : Nat), Loads P 23 ((⟨r, 0, none⟩ : Addr).add 2) (.slice t21_p_1 t21_n_1 t21_c_1) wv_1 ∧ ((decide ((18 : Int) < ((t21_n_1 : Nat) : Int))) = true →
 (true = true →
 R (.bool false) wv_1) ∧
 (true = false →
 ∃ (t34_p_6 : Option Addr) (t34_n_6 : Nat) (t34_c_6 : Nat), Loads P 23 (((⟨r, 0, none⟩ : Addr).add 0).add 1) (.slice t34_p_6 t34_n_6 t34_c_6) wv_1 ∧ ∃ (t36_p_6 : Option Addr) (t36_n_6 : Nat) (t36_c_6 : Nat), Loads P 23 ((⟨r, 0, none⟩ : Addr).add 2) (.slice t36_p_6 t36_n_6 t36_c_6) wv_1 ∧ Calls P 82 ⟨[(.slice t34_p_6 t34_n_6 t34_c_6), (.slice t36_p_6 t36_n_6 t36_c_6)]⟩ wv_1 fun e_13 wv_20 =>
 ∃ (t37_p_6 : Option Addr) (t37_n_6 : Nat) (t37_c_6 : Nat), e_13 = .returned (.slice t37_p_6 t37_n_6 t37_c_6) ∧
 ∀ (r_7 : Nat) (wv_21 : World), New wv_20 (.cells ⟨[(.int .i64 1)]⟩ 3 (0, 0)) r_7 wv_21 →
 Calls P 79 ⟨[(.slice t37_p_6 t37_n_6 t37_c_6), (.slice (some ⟨r_7, 0, none⟩) 1 1)]⟩ wv_21 fun e_14 wv_22 =>
 ∃ (t39_6 : Int), e_14 = .returned (.int .i64 t39_6) ∧
 R (.bool (decide ((t39_6 : Int) = 0))) wv_22)) ∧
 ((decide ((18 : Int) < ((t21_n_1 : Nat) : Int))) = false →
 ∃ (t28_p_3 : Option Addr) (t28_n_3 : Nat) (t28_c_3 : Nat), Loads P 23 (((⟨r, 0, none⟩ : Addr).add 0).add 1) (.slice t28_p_3 t28_n_3 t28_c_3) wv_1 ∧ ((decide ((18 : Int) < ((t28_n_3 : Nat) : Int))) = true →
 R (.bool false) wv_1) ∧
 ((decide ((18 : Int) < ((t28_n_3 : Nat) : Int))) = false →
 ∃ (t34_p_7 : Option Addr) (t34_n_7 : Nat) (t34_c_7 : Nat), Loads P 23 (((⟨r, 0, none⟩ : Addr).add 0).add 1) (.slice t34_p_7 t34_n_7 t34_c_7) wv_1 ∧ ∃ (t36_p_7 : Option Addr) (t36_n_7 : Nat) (t36_c_7 : Nat), Loads P 23 ((⟨r, 0, none⟩ : Addr).add 2) (.slice t36_p_7 t36_n_7 t36_c_7) wv_1 ∧ Calls P 82 ⟨[(.slice t34_p_7 t34_n_7 t34_c_7), (.slice t36_p_7 t36_n_7 t36_c_7)]⟩ wv_1 fun e_15 wv_23 =>
 ∃ (t37_p_7 : Option Addr) (t37_n_7 : Nat) (t37_c_7 : Nat), e_15 = .returned (.slice t37_p_7 t37_n_7 t37_c_7) ∧
 ∀ (r_8 : Nat) (wv_24 : World), New wv_23 (.cells ⟨[(.int .i64 1)]⟩ 3 (0, 0)) r_8 wv_24 →
 Calls P 79 ⟨[(.slice t37_p_7 t37_n_7 t37_c_7), (.slice (some ⟨r_8, 0, none⟩) 1 1)]⟩ wv_24 fun e_16 wv_25 =>
 ∃ (t39_7 : Int), e_16 = .returned (.int .i64 t39_7) ∧
 R (.bool (decide ((t39_7 : Int) = 0))) wv_25))))) ∧
 ((!t5) = false →
 ∃ (t9_p : Option Addr) (t9_n : Nat) (t9_c : Nat), Loads P 23 ((⟨r, 0, none⟩ : Addr).add 2) (.slice t9_p t9_n t9_c) wv_1 ∧ Calls P 50 ⟨[(.slice t9_p t9_n t9_c)]⟩ wv_1 fun e_17 wv_26 =>
 ∃ (t10 : Bool), e_17 = .returned (.bool t10) ∧
 ((!t10) = true →
 (true = true →
 (true = true →
 (true = true →
 R (.bool false) wv_26) ∧
 (true = false →
 ∃ (t34_p_8 : Option Addr) (t34_n_8 : Nat) (t34_c_8 : Nat), Loads P 23 (((⟨r, 0, none⟩ : Addr).add 0).add 1) (.slice t34_p_8 t34_n_8 t34_c_8) wv_26 ∧ ∃ (t36_p_8 : Option Addr) (t36_n_8 : Nat) (t36_c_8 : Nat), Loads P 23 ((⟨r, 0, none⟩ : Addr).add 2) (.slice t36_p_8 t36_n_8 t36_c_8) wv_26 ∧ Calls P 82 ⟨[(.slice t34_p_8 t34_n_8 t34_c_8), (.slice t36_p_8 t36_n_8 t36_c_8)]⟩ wv_26 fun e_18 wv_27 =>
 ∃ (t37_p_8 : Option Addr) (t37_n_8 : Nat) (t37_c_8 : Nat), e_18 = .returned (.slice t37_p_8 t37_n_8 t37_c_8) ∧
 ∀ (r_9 : Nat) (wv_28 : World), New wv_27 (.cells ⟨[(.int .i64 1)]⟩ 3 (0, 0)) r_9 wv_28 →
 Calls P 79 ⟨[(.slice t37_p_8 t37_n_8 t37_c_8), (.slice (some ⟨r_9, 0, none⟩) 1 1)]⟩ wv_28 fun e_19 wv_29 =>
 ∃ (t39_8 : Int), e_19 = .returned (.int .i64 t39_8) ∧
 R (.bool (decide ((t39_8 : Int) = 0))) wv_29)) ∧
 (true = false →
 ∃ (t28_p_4 : Option Addr) (t28_n_4 : Nat) (t28_c_4 : Nat), Loads P 23 (((⟨r, 0, none⟩ : Addr).add 0).add 1) (.slice t28_p_4 t28_n_4 t28_c_4) wv_26 ∧ ((decide ((18 : Int) < ((t28_n_4 : Nat) : Int))) = true →
 R (.bool false) wv_26) ∧
 ((decide ((18 : Int) < ((t28_n_4 : Nat) : Int))) = false →
 ∃ (t34_p_9 : Option Addr) (t34_n_9 : Nat) (t34_c_9 : Nat), Loads P 23 (((⟨r, 0, none⟩ : Addr).add 0).add 1) (.slice t34_p_9 t34_n_9 t34_c_9) wv_26 ∧ ∃ (t36_p_9 : Option Addr) (t36_n_9 : Nat) (t36_c_9 : Nat), Loads P 23 ((⟨r, 0, none⟩ : Addr).add 2) (.slice t36_p_9 t36_n_9 t36_c_9) wv_26 ∧ Calls P 82 ⟨[(.slice t34_p_9 t34_n_9 t34_c_9), (.slice t36_p_9 t36_n_9 t36_c_9)]⟩ wv_26 fun e_20 wv_30 =>
 ∃ (t37_p_9 : Option Addr) (t37_n_9 : Nat) (t37_c_9 : Nat), e_20 = .returned (.slice t37_p_9 t37_n_9 t37_c_9) ∧
 ∀ (r_10 : Nat) (wv_31 : World), New wv_30 (.cells ⟨[(.int .i64 1)]⟩ 3 (0, 0)) r_10 wv_31 →
 Calls P 79 ⟨[(.slice t37_p_9 t37_n_9 t37_c_9), (.slice (some ⟨r_10, 0, none⟩) 1 1)]⟩ wv_31 fun e_21 wv_32 =>
 ∃ (t39_9 : Int), e_21 = .returned (.int .i64 t39_9) ∧
 R (.bool (decide ((t39_9 : Int) = 0))) wv_32))) ∧
 (true = false →
 ∃ (t21_p_2 : Option Addr) (t21_n_2 : Nat) (t21_c_2 : Nat), Loads P 23 ((⟨r, 0, none⟩ : Addr).add 2) (.slice t21_p_2 t21_n_2 t21_c_2) wv_26 ∧ ((decide ((18 : Int) < ((t21_n_2 : Nat) : Int))) = true →
 (true = true →
 R (.bool false) wv_26) ∧
 (true = false →
 ∃ (t34_p_10 : Option Addr) (t34_n_10 : Nat) (t34_c_10 : Nat), Loads P 23 (((⟨r, 0, none⟩ : Addr).add 0).add 1) (.slice t34_p_10 t34_n_10 t34_c_10) wv_26 ∧ ∃ (t36_p_10 : Option Addr) (t36_n_10 : Nat) (t36_c_10 : Nat), Loads P 23 ((⟨r, 0, none⟩ : Addr).add 2) (.slice t36_p_10 t36_n_10 t36_c_10) wv_26 ∧ Calls P 82 ⟨[(.slice t34_p_10 t34_n_10 t34_c_10), (.slice t36_p_10 t36_n_10 t36_c_10)]⟩ wv_26 fun e_22 wv_33 =>
 ∃ (t37_p_10 : Option Addr) (t37_n_10 : Nat) (t37_c_10 : Nat), e_22 = .returned (.slice t37_p_10 t37_n_10 t37_c_10) ∧
 ∀ (r_11 : Nat) (wv_34 : World), New wv_33 (.cells ⟨[(.int .i64 1)]⟩ 3 (0, 0)) r_11 wv_34 →
 Calls P 79 ⟨[(.slice t37_p_10 t37_n_10 t37_c_10), (.slice (some ⟨r_11, 0, none⟩) 1 1)]⟩ wv_34 fun e_23 wv_35 =>
 ∃ (t39_10 : Int), e_23 = .returned (.int .i64 t39_10) ∧
 R (.bool (decide ((t39_10 : Int) = 0))) wv_35)) ∧
 ((decide ((18 : Int) < ((t21_n_2 : Nat) : Int))) = false →
 ∃ (t28_p_5 : Option Addr) (t28_n_5 : Nat) (t28_c_5 : Nat), Loads P 23 (((⟨r, 0, none⟩ : Addr).add 0).add 1) (.slice t28_p_5 t28_n_5 t28_c_5) wv_26 ∧ ((decide ((18 : Int) < ((t28_n_5 : Nat) : Int))) = true →
 R (.bool false) wv_26) ∧
 ((decide ((18 : Int) < ((t28_n_5 : Nat) : Int))) = false →
 ∃ (t34_p_11 : Option Addr) (t34_n_11 : Nat) (t34_c_11 : Nat), Loads P 23 (((⟨r, 0, none⟩ : Addr).add 0).add 1) (.slice t34_p_11 t34_n_11 t34_c_11) wv_26 ∧ ∃ (t36_p_11 : Option Addr) (t36_n_11 : Nat) (t36_c_11 : Nat), Loads P 23 ((⟨r, 0, none⟩ : Addr).add 2) (.slice t36_p_11 t36_n_11 t36_c_11) wv_26 ∧ Calls P 82 ⟨[(.slice t34_p_11 t34_n_11 t34_c_11), (.slice t36_p_11 t36_n_11 t36_c_11)]⟩ wv_26 fun e_24 wv_36 =>
 ∃ (t37_p_11 : Option Addr) (t37_n_11 : Nat) (t37_c_11 : Nat), e_24 = .returned (.slice t37_p_11 t37_n_11 t37_c_11) ∧
 ∀ (r_12 : Nat) (wv_37 : World), New wv_36 (.cells ⟨[(.int .i64 1)]⟩ 3 (0, 0)) r_12 wv_37 →
 Calls P 79 ⟨[(.slice t37_p_11 t37_n_11 t37_c_11), (.slice (some ⟨r_12, 0, none⟩) 1 1)]⟩ wv_37 fun e_25 wv_38 =>
 ∃ (t39_11 : Int), e_25 = .returned (.int .i64 t39_11) ∧
 R (.bool (decide ((t39_11 : Int) = 0))) wv_38)))) ∧
 ((!t10) = false →
 ∃ (t15_p_1 : Option Addr) (t15_n_1 : Nat) (t15_c_1 : Nat), Loads P 23 ((⟨r, 0, none⟩ : Addr).add 2) (.slice t15_p_1 t15_n_1 t15_c_1) wv_26 ∧ ((decide ((((t15_n_1 : Nat) : Int) : Int) = 0)) = true →
 (true = true →
 (true = true →
 R (.bool false) wv_26) ∧
 (true = false →
 ∃ (t34_p_12 : Option Addr) (t34_n_12 : Nat) (t34_c_12 : Nat), Loads P 23 (((⟨r, 0, none⟩ : Addr).add 0).add 1) (.slice t34_p_12 t34_n_12 t34_c_12) wv_26 ∧ ∃ (t36_p_12 : Option Addr) (t36_n_12 : Nat) (t36_c_12 : Nat), Loads P 23 ((⟨r, 0, none⟩ : Addr).add 2) (.slice t36_p_12 t36_n_12 t36_c_12) wv_26 ∧ Calls P 82 ⟨[(.slice t34_p_12 t34_n_12 t34_c_12), (.slice t36_p_12 t36_n_12 t36_c_12)]⟩ wv_26 fun e_26 wv_39 =>
 ∃ (t37_p_12 : Option Addr) (t37_n_12 : Nat) (t37_c_12 : Nat), e_26 = .returned (.slice t37_p_12 t37_n_12 t37_c_12) ∧
 ∀ (r_13 : Nat) (wv_40 : World), New wv_39 (.cells ⟨[(.int .i64 1)]⟩ 3 (0, 0)) r_13 wv_40 →
 Calls P 79 ⟨[(.slice t37_p_12 t37_n_12 t37_c_12), (.slice (some ⟨r_13, 0, none⟩) 1 1)]⟩ wv_40 fun e_27 wv_41 =>
 ∃ (t39_12 : Int), e_27 = .returned (.int .i64 t39_12) ∧
 R (.bool (decide ((t39_12 : Int) = 0))) wv_41)) ∧
 (true = false →
 ∃ (t28_p_6 : Option Addr) (t28_n_6 : Nat) (t28_c_6 : Nat), Loads P 23 (((⟨r, 0, none⟩ : Addr).add 0).add 1) (.slice t28_p_6 t28_n_6 t28_c_6) wv_26 ∧ ((decide ((18 : Int) < ((t28_n_6 : Nat) : Int))) = true →
 R (.bool false) wv_26) ∧
 ((decide ((18 : Int) < ((t28_n_6 : Nat) : Int))) = false →
 ∃ (t34_p_13 : Option Addr) (t34_n_13 : Nat) (t34_c_13 : Nat), Loads P 23 (((⟨r, 0, none⟩ : Addr).add 0).add 1) (.slice t34_p_13 t34_n_13 t34_c_13) wv_26 ∧ ∃ (t36_p_13 : Option Addr) (t36_n_13 : Nat) (t36_c_13 : Nat), Loads P 23 ((⟨r, 0, none⟩ : Addr).add 2) (.slice t36_p_13 t36_n_13 t36_c_13) wv_26 ∧ Calls P 82 ⟨[(.slice t34_p_13 t34_n_13 t34_c_13), (.slice t36_p_13 t36_n_13 t36_c_13)]⟩ wv_26 fun e_28 wv_42 =>
 ∃ (t37_p_13 : Option Addr) (t37_n_13 : Nat) (t37_c_13 : Nat), e_28 = .returned (.slice t37_p_13 t37_n_13 t37_c_13) ∧
 ∀ (r_14 : Nat) (wv_43 : World), New wv_42 (.cells ⟨[(.int .i64 1)]⟩ 3 (0, 0)) r_14 wv_43 →
 Calls P 79 ⟨[(.slice t37_p_13 t37_n_13 t37_c_13), (.slice (some ⟨r_14, 0, none⟩) 1 1)]⟩ wv_43 fun e_29 wv_44 =>
 ∃ (t39_13 : Int), e_29 = .returned (.int .i64 t39_13) ∧
 R (.bool (decide ((t39_13 : Int) = 0))) wv_44))) ∧
 ((decide ((((t15_n_1 : Nat) : Int) : Int) = 0)) = false →
 ∃ (t21_p_3 : Option Addr) (t21_n_3 : Nat) (t21_c_3 : Nat), Loads P 23 ((⟨r, 0, none⟩ : Addr).add 2) (.slice t21_p_3 t21_n_3 t21_c_3) wv_26 ∧ ((decide ((18 : Int) < ((t21_n_3 : Nat) : Int))) = true →
 (true = true →
 R (.bool false) wv_26) ∧
 (true = false →
 ∃ (t34_p_14 : Option Addr) (t34_n_14 : Nat) (t34_c_14 : Nat), Loads P 23 (((⟨r, 0, none⟩ : Addr).add 0).add 1) (.slice t34_p_14 t34_n_14 t34_c_14) wv_26 ∧ ∃ (t36_p_14 : Option Addr) (t36_n_14 : Nat) (t36_c_14 : Nat), Loads P 23 ((⟨r, 0, none⟩ : Addr).add 2) (.slice t36_p_14 t36_n_14 t36_c_14) wv_26 ∧ Calls P 82 ⟨[(.slice t34_p_14 t34_n_14 t34_c_14), (.slice t36_p_14 t36_n_14 t36_c_14)]⟩ wv_26 fun e_30 wv_45 =>
 ∃ (t37_p_14 : Option Addr) (t37_n_14 : Nat) (t37_c_14 : Nat), e_30 = .returned (.slice t37_p_14 t37_n_14 t37_c_14) ∧
 ∀ (r_15 : Nat) (wv_46 : World), New wv_45 (.cells ⟨[(.int .i64 1)]⟩ 3 (0, 0)) r_15 wv_46 →
 Calls P 79 ⟨[(.slice t37_p_14 t37_n_14 t37_c_14), (.slice (some ⟨r_15, 0, none⟩) 1 1)]⟩ wv_46 fun e_31 wv_47 =>
 ∃ (t39_14 : Int), e_31 = .returned (.int .i64 t39_14) ∧
 R (.bool (decide ((t39_14 : Int) = 0))) wv_47)) ∧
 ((decide ((18 : Int) < ((t21_n_3 : Nat) : Int))) = false →
 ∃ (t28_p_7 : Option Addr) (t28_n_7 : Nat) (t28_c_7 : Nat), Loads P 23 (((⟨r, 0, none⟩ : Addr).add 0).add 1) (.slice t28_p_7 t28_n_7 t28_c_7) wv_26 ∧ ((decide ((18 : Int) < ((t28_n_7 : Nat) : Int))) = true →
 R (.bool false) wv_26) ∧
 ((decide ((18 : Int) < ((t28_n_7 : Nat) : Int))) = false →
 ∃ (t34_p_15 : Option Addr) (t34_n_15 : Nat) (t34_c_15 : Nat), Loads P 23 (((⟨r, 0, none⟩ : Addr).add 0).add 1) (.slice t34_p_15 t34_n_15 t34_c_15) wv_26 ∧ ∃ (t36_p_15 : Option Addr) (t36_n_15 : Nat) (t36_c_15 : Nat), Loads P 23 ((⟨r, 0, none⟩ : Addr).add 2) (.slice t36_p_15 t36_n_15 t36_c_15) wv_26 ∧ Calls P 82 ⟨[(.slice t34_p_15 t34_n_15 t34_c_15), (.slice t36_p_15 t36_n_15 t36_c_15)]⟩ wv_26 fun e_32 wv_48 =>
 ∃ (t37_p_15 : Option Addr) (t37_n_15 : Nat) (t37_c_15 : Nat), e_32 = .returned (.slice t37_p_15 t37_n_15 t37_c_15) ∧
 ∀ (r_16 : Nat) (wv_49 : World), New wv_48 (.cells ⟨[(.int .i64 1)]⟩ 3 (0, 0)) r_16 wv_49 →
 Calls P 79 ⟨[(.slice t37_p_15 t37_n_15 t37_c_15), (.slice (some ⟨r_16, 0, none⟩) 1 1)]⟩ wv_49 fun e_33 wv_50 =>
 ∃ (t39_15 : Int), e_33 = .returned (.int .i64 t39_15) ∧
 R (.bool (decide ((t39_15 : Int) = 0))) wv_50)))))
theorem spec_RatOk_ret {r0 : Bool} {r1_p : Option Addr} {r1_n : Nat} {r1_c : Nat} {r2_p : Option Addr} {r2_n : Nat} {r2_c : Nat} {w : World} {R : Value → World → Prop} (h : spec_RatOk r0 r1_p r1_n r1_c r2_p r2_n r2_c w R) : Ret P 57 [(.agg #[(.bool r0), (.slice r1_p r1_n r1_c), (.slice r2_p r2_n r2_c)])] w R :=
  Ret.of_fsem Tryz.func57 rfl (Eq.mp (show _ = fsem P Tryz.f57 (fun k => []) _ R w from by kernel_rfl) h)
def spec_l05Low (neg : Bool) (a_p : Option Addr) (a_n : Nat) (a_c : Nat) (b_p : Option Addr) (b_n : Nat) (b_c : Nat) (w : World) (R : Value → World → Prop) : Prop :=
 ∀ (r : Nat) (wv : World), New w (.cells ⟨[(.bool false), (.slice none 0 0), (.slice none 0 0)]⟩ 30 (0, 0)) r wv →
 Calls P 83 ⟨[(.slice a_p a_n a_c)]⟩ wv fun e wv_1 =>
 ∃ (t16_p : Option Addr) (t16_n : Nat) (t16_c : Nat), e = .returned (.slice t16_p t16_n t16_c) ∧
 Calls P 83 ⟨[(.slice b_p b_n b_c)]⟩ wv_1 fun e_1 wv_2 =>
 ∃ (t18_p : Option Addr) (t18_n : Nat) (t18_c : Nat), e_1 = .returned (.slice t18_p t18_n t18_c) ∧
 ((decide ((((t18_n : Nat) : Int) : Int) = 0)) = true →
 ∃ wv_3, Stores P 30 ⟨r, 0, none⟩ (.agg #[(.bool false), (.slice none 0 0), (.slice none 0 0)]) wv_2 wv_3 ∧
 ∃ (r0 : Bool) (r1_p : Option Addr) (r1_n : Nat) (r1_c : Nat) (r2_p : Option Addr) (r2_n : Nat) (r2_c : Nat), Loads P 30 ⟨r, 0, none⟩ (.agg #[(.bool r0), (.slice r1_p r1_n r1_c), (.slice r2_p r2_n r2_c)]) wv_3 ∧ R (.tuple #[(.agg #[(.bool r0), (.slice r1_p r1_n r1_c), (.slice r2_p r2_n r2_c)]), (.bool false)]) wv_3) ∧
 ((decide ((((t18_n : Nat) : Int) : Int) = 0)) = false →
 Calls P 84 ⟨[(.slice t16_p t16_n t16_c), (.slice t18_p t18_n t18_c)]⟩ wv_2 fun e_2 wv_4 =>
 ∃ (t25_p : Option Addr) (t25_n : Nat) (t25_c : Nat), e_2 = .returned (.slice t25_p t25_n t25_c) ∧
 Calls P 85 ⟨[(.slice t16_p t16_n t16_c), (.slice t25_p t25_n t25_c)]⟩ wv_4 fun e_3 wv_5 =>
 ∃ (t29_p : Option Addr) (t29_n : Nat) (t29_c : Nat) (t29_p_1 : Option Addr) (t29_n_1 : Nat) (t29_c_1 : Nat), e_3 = .returned (.tuple #[(.slice t29_p t29_n t29_c), (.slice t29_p_1 t29_n_1 t29_c_1)]) ∧
 Calls P 85 ⟨[(.slice t18_p t18_n t18_c), (.slice t25_p t25_n t25_c)]⟩ wv_5 fun e_4 wv_6 =>
 ∃ (t35_p : Option Addr) (t35_n : Nat) (t35_c : Nat) (t35_p_1 : Option Addr) (t35_n_1 : Nat) (t35_c_1 : Nat), e_4 = .returned (.tuple #[(.slice t35_p t35_n t35_c), (.slice t35_p_1 t35_n_1 t35_c_1)]) ∧
 ((decide ((18 : Int) < ((t29_n : Nat) : Int))) = true →
 (true = true →
 ∃ wv_7, Stores P 30 ⟨r, 0, none⟩ (.agg #[(.bool false), (.slice none 0 0), (.slice none 0 0)]) wv_6 wv_7 ∧
 ∃ (r0_1 : Bool) (r1_p_1 : Option Addr) (r1_n_1 : Nat) (r1_c_1 : Nat) (r2_p_1 : Option Addr) (r2_n_1 : Nat) (r2_c_1 : Nat), Loads P 30 ⟨r, 0, none⟩ (.agg #[(.bool r0_1), (.slice r1_p_1 r1_n_1 r1_c_1), (.slice r2_p_1 r2_n_1 r2_c_1)]) wv_7 ∧ R (.tuple #[(.agg #[(.bool r0_1), (.slice r1_p_1 r1_n_1 r1_c_1), (.slice r2_p_1 r2_n_1 r2_c_1)]), (.bool false)]) wv_7) ∧
 (true = false →
 Calls P 51 ⟨[(.bool neg), (.slice t29_p t29_n t29_c)]⟩ wv_6 fun e_5 wv_8 =>
 ∃ (t490 : Bool) (t491_p : Option Addr) (t491_n : Nat) (t491_c : Nat), e_5 = .returned (.agg #[(.bool t490), (.slice t491_p t491_n t491_c)]) ∧
 ∀ (r_1 : Nat) (wv_9 : World), New wv_8 (.cells ⟨[]⟩ 3 (0, 0)) r_1 wv_9 →
 ∃ (t52_p : Option Addr) (t52_n : Nat) (t52_c : Nat) (wv_10 : World), Appends P [23, 23] [(.slice (some ⟨r_1, 0, none⟩) 0 0), (.slice t35_p t35_n t35_c)] (.slice t52_p t52_n t52_c) wv_9 wv_10 ∧
 ∃ wv_11, Stores P 30 ⟨r, 0, none⟩ (.agg #[(.bool t490), (.slice t491_p t491_n t491_c), (.slice t52_p t52_n t52_c)]) wv_10 wv_11 ∧
 ∃ (r0_2 : Bool) (r1_p_2 : Option Addr) (r1_n_2 : Nat) (r1_c_2 : Nat) (r2_p_2 : Option Addr) (r2_n_2 : Nat) (r2_c_2 : Nat), Loads P 30 ⟨r, 0, none⟩ (.agg #[(.bool r0_2), (.slice r1_p_2 r1_n_2 r1_c_2), (.slice r2_p_2 r2_n_2 r2_c_2)]) wv_11 ∧ R (.tuple #[(.agg #[(.bool r0_2), (.slice r1_p_2 r1_n_2 r1_c_2), (.slice r2_p_2 r2_n_2 r2_c_2)]), (.bool true)]) wv_11)) ∧
 ((decide ((18 : Int) < ((t29_n : Nat) : Int))) = false →
 ((decide ((18 : Int) < ((t35_n : Nat) : Int))) = true →
 ∃ wv_12, Stores P 30 ⟨r, 0, none⟩ (.agg #[(.bool false), (.slice none 0 0), (.slice none 0 0)]) wv_6 wv_12 ∧
 ∃ (r0_3 : Bool) (r1_p_3 : Option Addr) (r1_n_3 : Nat) (r1_c_3 : Nat) (r2_p_3 : Option Addr) (r2_n_3 : Nat) (r2_c_3 : Nat), Loads P 30 ⟨r, 0, none⟩ (.agg #[(.bool r0_3), (.slice r1_p_3 r1_n_3 r1_c_3), (.slice r2_p_3 r2_n_3 r2_c_3)]) wv_12 ∧ R (.tuple #[(.agg #[(.bool r0_3), (.slice r1_p_3 r1_n_3 r1_c_3), (.slice r2_p_3 r2_n_3 r2_c_3)]), (.bool false)]) wv_12) ∧
 ((decide ((18 : Int) < ((t35_n : Nat) : Int))) = false →
 Calls P 51 ⟨[(.bool neg), (.slice t29_p t29_n t29_c)]⟩ wv_6 fun e_6 wv_13 =>
 ∃ (t490_1 : Bool) (t491_p_1 : Option Addr) (t491_n_1 : Nat) (t491_c_1 : Nat), e_6 = .returned (.agg #[(.bool t490_1), (.slice t491_p_1 t491_n_1 t491_c_1)]) ∧
 ∀ (r_2 : Nat) (wv_14 : World), New wv_13 (.cells ⟨[]⟩ 3 (0, 0)) r_2 wv_14 →
 ∃ (t52_p_1 : Option Addr) (t52_n_1 : Nat) (t52_c_1 : Nat) (wv_15 : World), Appends P [23, 23] [(.slice (some ⟨r_2, 0, none⟩) 0 0), (.slice t35_p t35_n t35_c)] (.slice t52_p_1 t52_n_1 t52_c_1) wv_14 wv_15 ∧
 ∃ wv_16, Stores P 30 ⟨r, 0, none⟩ (.agg #[(.bool t490_1), (.slice t491_p_1 t491_n_1 t491_c_1), (.slice t52_p_1 t52_n_1 t52_c_1)]) wv_15 wv_16 ∧
 ∃ (r0_4 : Bool) (r1_p_4 : Option Addr) (r1_n_4 : Nat) (r1_c_4 : Nat) (r2_p_4 : Option Addr) (r2_n_4 : Nat) (r2_c_4 : Nat), Loads P 30 ⟨r, 0, none⟩ (.agg #[(.bool r0_4), (.slice r1_p_4 r1_n_4 r1_c_4), (.slice r2_p_4 r2_n_4 r2_c_4)]) wv_16 ∧ R (.tuple #[(.agg #[(.bool r0_4), (.slice r1_p_4 r1_n_4 r1_c_4), (.slice r2_p_4 r2_n_4 r2_c_4)]), (.bool true)]) wv_16)))
theorem spec_l05Low_ret {neg : Bool} {a_p : Option Addr} {a_n : Nat} {a_c : Nat} {b_p : Option Addr} {b_n : Nat} {b_c : Nat} {w : World} {R : Value → World → Prop} (h : spec_l05Low neg a_p a_n a_c b_p b_n b_c w R) : Ret P 58 [(.bool neg), (.slice a_p a_n a_c), (.slice b_p b_n b_c)] w R :=
  Ret.of_fsem Tryz.func58 rfl (Eq.mp (show _ = fsem P Tryz.f58 (fun k => []) _ R w from by kernel_rfl) h)
def spec_l02Mul_j0 (a_p : Option Addr) (a_n : Nat) (b_p : Option Addr) (b_n : Nat) (W : World) (R : Value → World → Prop) : Prop :=
 ∃ t24 : Int, t24 = IntKind.wrap .i64 (((a_n : Nat) : Int) + ((b_n : Nat) : Int)) ∧ (0 ≤ (t24 : Int) ∧ (t24 : Int) ≤ t24 ∧ ((8 : Nat) : Int) * t24 ≤ 281474976710656) ∧
 ∀ (r : Nat) (wv : World), New W (.cells ⟨zeroRow (.int .i64 0) (t24.toNat * 1)⟩ 3 (0, 0)) r wv →
 ∃ (Inv : Int → World → Prop) (mu : Int → World → Nat), Inv 0 wv ∧
 ∀ (junk : Fr) (wv_1 : World) (t28 : Int), Inv t28 wv_1 →
 ((decide ((t28 : Int) < ((a_n : Nat) : Int))) = true →
 (0 ≤ (t28 : Int) ∧ (t28 : Int) < (a_n : Nat)) ∧ ptrS a_p fun ad => ∃ (t32 : Int), Loads P 3 (ad.add (t28.toNat * 1)) (.int .i64 t32) wv_1 ∧ ∃ (Inv_1 : Int → Int → World → Prop) (mu_1 : Int → Int → World → Nat), Inv_1 0 0 wv_1 ∧
 ∀ (junk_1 : Fr) (wv_2 : World) (carry : Int) (t35 : Int), Inv_1 carry t35 wv_2 →
 ((decide ((t35 : Int) < ((b_n : Nat) : Int))) = true →
 (0 ≤ (t35 : Int) ∧ (t35 : Int) < (b_n : Nat)) ∧ ptrS b_p fun ad_1 => ∃ (t39 : Int), Loads P 3 (ad_1.add (t35.toNat * 1)) (.int .i64 t39) wv_2 ∧ ∃ t43 : Int, t43 = IntKind.wrap .i64 (t28 + t35) ∧ (0 ≤ (t43 : Int) ∧ (t43 : Int) < (t24.toNat : Nat)) ∧ ∃ (t45 : Int), Loads P 3 ((⟨r, 0, none⟩ : Addr).add (t43.toNat * 1)) (.int .i64 t45) wv_2 ∧ ∃ t48 : Int, t48 = IntKind.wrap .i64 (t32 * t39) ∧ ∃ t49 : Int, t49 = IntKind.wrap .i64 (t45 + t48) ∧ ∃ t51 : Int, t51 = IntKind.wrap .i64 (t49 + carry) ∧ ∃ t55 : Int, t55 = IntKind.wrap .i64 (t28 + t35) ∧ (1000000000 : Int) ≠ 0 ∧ ∃ t57 : Int, t57 = Int.tmod t51 1000000000 ∧ (0 ≤ (t55 : Int) ∧ (t55 : Int) < (t24.toNat : Nat)) ∧ ∃ wv_3, Stores P 3 ((⟨r, 0, none⟩ : Addr).add (t55.toNat * 1)) (.int .i64 t57) wv_2 wv_3 ∧
 (1000000000 : Int) ≠ 0 ∧ ∃ t60 : Int, t60 = IntKind.wrap .i64 (Int.tdiv t51 1000000000) ∧ ∃ t61 : Int, t61 = IntKind.wrap .i64 (t35 + 1) ∧ Inv_1 t60 t61 wv_3 ∧ mu_1 t60 t61 wv_3 < mu_1 carry t35 wv_2) ∧
 ((decide ((t35 : Int) < ((b_n : Nat) : Int))) = false →
 ∃ t66 : Int, t66 = IntKind.wrap .i64 (t28 + ((b_n : Nat) : Int)) ∧ (0 ≤ (t66 : Int) ∧ (t66 : Int) < (t24.toNat : Nat)) ∧ ∃ wv_4, Stores P 3 ((⟨r, 0, none⟩ : Addr).add (t66.toNat * 1)) (.int .i64 carry) wv_2 wv_4 ∧
 ∃ t69 : Int, t69 = IntKind.wrap .i64 (t28 + 1) ∧ Inv t69 wv_4 ∧ mu t69 wv_4 < mu t28 wv_1)) ∧
 ((decide ((t28 : Int) < ((a_n : Nat) : Int))) = false →
 Calls P 83 ⟨[(.slice (some ⟨r, 0, none⟩) t24.toNat t24.toNat)]⟩ wv_1 fun e wv_5 =>
 ∃ (t71_p : Option Addr) (t71_n : Nat) (t71_c : Nat), e = .returned (.slice t71_p t71_n t71_c) ∧
 R (.slice t71_p t71_n t71_c) wv_5)
def spec_l02Mul (a_p : Option Addr) (a_n : Nat) (a_c : Nat) (b_p : Option Addr) (b_n : Nat) (b_c : Nat) (w : World) (R : Value → World → Prop) : Prop :=
 ((decide ((((a_n : Nat) : Int) : Int) = 0)) = true →
 (true = true →
 R (.slice none 0 0) w) ∧
 (true = false →
 spec_l02Mul_j0 a_p a_n b_p b_n w R)) ∧
 ((decide ((((a_n : Nat) : Int) : Int) = 0)) = false →
 ((decide ((((b_n : Nat) : Int) : Int) = 0)) = true →
 R (.slice none 0 0) w) ∧
 ((decide ((((b_n : Nat) : Int) : Int) = 0)) = false →
 spec_l02Mul_j0 a_p a_n b_p b_n w R))
theorem spec_l02Mul_ret {a_p : Option Addr} {a_n : Nat} {a_c : Nat} {b_p : Option Addr} {b_n : Nat} {b_c : Nat} {w : World} {R : Value → World → Prop} (h : spec_l02Mul a_p a_n a_c b_p b_n b_c w R) : Ret P 59 [(.slice a_p a_n a_c), (.slice b_p b_n b_c)] w R :=
  Ret.of_fsem Tryz.func59 rfl (Eq.mp (show _ = fsem P Tryz.f59 (fun k => cond (Nat.beq k 6) [(28, .one (.int .i64))] (cond (Nat.beq k 10) [(8, .one (.int .i64)), (35, .one (.int .i64))] ([]))) _ R w from by kernel_rfl) h)
def spec_DecOk (d0 : Bool) (d1_p : Option Addr) (d1_n : Nat) (d1_c : Nat) (d2 : Int) (w : World) (R : Value → World → Prop) : Prop :=
 ∀ (r : Nat) (wv : World), New w (.cells ⟨[(.bool d0), (.slice d1_p d1_n d1_c), (.int .i64 d2)]⟩ 58 (0, 0)) r wv →
 ∃ (t40 : Bool) (t41_p : Option Addr) (t41_n : Nat) (t41_c : Nat), Loads P 28 ((⟨r, 0, none⟩ : Addr).add 0) (.agg #[(.bool t40), (.slice t41_p t41_n t41_c)]) wv ∧ Calls P 20 ⟨[(.agg #[(.bool t40), (.slice t41_p t41_n t41_c)])]⟩ wv fun e wv_1 =>
 ∃ (t5 : Bool), e = .returned (.bool t5) ∧
 (t5 = true →
 ∃ (t9_p : Option Addr) (t9_n : Nat) (t9_c : Nat), Loads P 23 (((⟨r, 0, none⟩ : Addr).add 0).add 1) (.slice t9_p t9_n t9_c) wv_1 ∧ ((decide ((((t9_n : Nat) : Int) : Int) ≤ 6)) = true →
 ∃ (t15 : Int), Loads P 3 ((⟨r, 0, none⟩ : Addr).add 2) (.int .i64 t15) wv_1 ∧ Calls P 48 ⟨[(.int .i64 t15), (.int .i64 0), (.int .i64 30)]⟩ wv_1 fun e_1 wv_2 =>
 ∃ (t16 : Bool), e_1 = .returned (.bool t16) ∧
 R (.bool t16) wv_2) ∧
 ((decide ((((t9_n : Nat) : Int) : Int) ≤ 6)) = false →
 R (.bool false) wv_1)) ∧
 (t5 = false →
 (false = true →
 ∃ (t15_1 : Int), Loads P 3 ((⟨r, 0, none⟩ : Addr).add 2) (.int .i64 t15_1) wv_1 ∧ Calls P 48 ⟨[(.int .i64 t15_1), (.int .i64 0), (.int .i64 30)]⟩ wv_1 fun e_2 wv_3 =>
 ∃ (t16_1 : Bool), e_2 = .returned (.bool t16_1) ∧
 R (.bool t16_1) wv_3) ∧
 (false = false →
 R (.bool false) wv_1))
theorem spec_DecOk_ret {d0 : Bool} {d1_p : Option Addr} {d1_n : Nat} {d1_c : Nat} {d2 : Int} {w : World} {R : Value → World → Prop} (h : spec_DecOk d0 d1_p d1_n d1_c d2 w R) : Ret P 60 [(.agg #[(.bool d0), (.slice d1_p d1_n d1_c), (.int .i64 d2)])] w R :=
  Ret.of_fsem Tryz.func60 rfl (Eq.mp (show _ = fsem P Tryz.f60 (fun k => []) _ R w from by kernel_rfl) h)
def spec_l07Ten (k : Int) (w : World) (R : Value → World → Prop) : Prop :=
 ∀ (r : Nat) (wv : World), New w (.cells ⟨[(.bool false), (.slice none 0 0)]⟩ 28 (0, 0)) r wv →
 Calls P 86 ⟨[(.int .i64 k)]⟩ wv fun e wv_1 =>
 ∃ (t4_p : Option Addr) (t4_n : Nat) (t4_c : Nat), e = .returned (.slice t4_p t4_n t4_c) ∧
 ∃ wv_2, Stores P 28 ⟨r, 0, none⟩ (.agg #[(.bool false), (.slice t4_p t4_n t4_c)]) wv_1 wv_2 ∧
 ∃ (r0 : Bool) (r1_p : Option Addr) (r1_n : Nat) (r1_c : Nat), Loads P 28 ⟨r, 0, none⟩ (.agg #[(.bool r0), (.slice r1_p r1_n r1_c)]) wv_2 ∧ R (.agg #[(.bool r0), (.slice r1_p r1_n r1_c)]) wv_2
theorem spec_l07Ten_ret {k : Int} {w : World} {R : Value → World → Prop} (h : spec_l07Ten k w R) : Ret P 61 [(.int .i64 k)] w R :=
  Ret.of_fsem Tryz.func61 rfl (Eq.mp (show _ = fsem P Tryz.f61 (fun k => []) _ R w from by kernel_rfl) h)
def impl_TaxRateOk (r0 : Bool) (r1_p : Option Addr) (r1_n : Nat) (r1_c : Nat) (r2 : Int) (w : World) (R : Value → World → Prop) : Prop :=
 ∀ (r : Nat) (wv : World), New w (.cells ⟨[(.bool r0), (.slice r1_p r1_n r1_c), (.int .i64 r2)]⟩ 58 (0, 0)) r wv →
 ∃ (t30 : Bool) (t31_p : Option Addr) (t31_n : Nat) (t31_c : Nat) (t32 : Int), (∀ wv_1, Ext wv.drew wv_1 → Loads P 58 ⟨r, 0, none⟩ (.agg #[(.bool t30), (.slice t31_p t31_n t31_c), (.int .i64 t32)]) wv_1) ∧ Calls P 72 ⟨[(.agg #[(.bool t30), (.slice t31_p t31_n t31_c), (.int .i64 t32)])]⟩ wv.drew fun e wv_2 =>
 ∃ (t4 : Bool), e = .returned (.bool t4) ∧
 (t4 = true →
 ∃ (t8_p : Option Addr) (t8_n : Nat) (t8_c : Nat), (∀ wv_3, Ext wv_2 wv_3 → Loads P 23 (((⟨r, 0, none⟩ : Addr).add 0).add 1) (.slice t8_p t8_n t8_c) wv_3) ∧ ((decide ((((t8_n : Nat) : Int) : Int) ≤ 1)) = true →
 ∃ (t15 : Bool), (∀ wv_4, Ext wv_2 wv_4 → Loads P 4 (((⟨r, 0, none⟩ : Addr).add 0).add 0) (.bool t15) wv_4) ∧ ((!t15) = true →
 ∃ (t190 : Bool) (t191_p : Option Addr) (t191_n : Nat) (t191_c : Nat) (t192 : Int), (∀ wv_5, Ext wv_2 wv_5 → Loads P 58 ⟨r, 0, none⟩ (.agg #[(.bool t190), (.slice t191_p t191_n t191_c), (.int .i64 t192)]) wv_5) ∧ Calls P 88 ⟨[(.int .i64 1)]⟩ wv_2 fun e_1 wv_6 =>
 ∃ (t200 : Bool) (t201_p : Option Addr) (t201_n : Nat) (t201_c : Nat), e_1 = .returned (.agg #[(.bool t200), (.slice t201_p t201_n t201_c)]) ∧
 Ext wv_2 wv_6 ∧ Calls P 87 ⟨[(.agg #[(.bool t190), (.slice t191_p t191_n t191_c), (.int .i64 t192)]), (.agg #[(.bool t200), (.slice t201_p t201_n t201_c), (.int .i64 0)])]⟩ wv_6 fun e_2 wv_7 =>
 ∃ (t22 : Int), e_2 = .returned (.int .i64 t22) ∧
 R (.bool (decide ((t22 : Int) ≤ 0))) wv_7) ∧
 ((!t15) = false →
 R (.bool false) wv_2)) ∧
 ((decide ((((t8_n : Nat) : Int) : Int) ≤ 1)) = false →
 (false = true →
 ∃ (t190_1 : Bool) (t191_p_1 : Option Addr) (t191_n_1 : Nat) (t191_c_1 : Nat) (t192_1 : Int), (∀ wv_8, Ext wv_2 wv_8 → Loads P 58 ⟨r, 0, none⟩ (.agg #[(.bool t190_1), (.slice t191_p_1 t191_n_1 t191_c_1), (.int .i64 t192_1)]) wv_8) ∧ Calls P 88 ⟨[(.int .i64 1)]⟩ wv_2 fun e_3 wv_9 =>
 ∃ (t200_1 : Bool) (t201_p_1 : Option Addr) (t201_n_1 : Nat) (t201_c_1 : Nat), e_3 = .returned (.agg #[(.bool t200_1), (.slice t201_p_1 t201_n_1 t201_c_1)]) ∧
 Ext wv_2 wv_9 ∧ Calls P 87 ⟨[(.agg #[(.bool t190_1), (.slice t191_p_1 t191_n_1 t191_c_1), (.int .i64 t192_1)]), (.agg #[(.bool t200_1), (.slice t201_p_1 t201_n_1 t201_c_1), (.int .i64 0)])]⟩ wv_9 fun e_4 wv_10 =>
 ∃ (t22_1 : Int), e_4 = .returned (.int .i64 t22_1) ∧
 R (.bool (decide ((t22_1 : Int) ≤ 0))) wv_10) ∧
 (false = false →
 R (.bool false) wv_2))) ∧
 (t4 = false →
 (false = true →
 ∃ (t15_1 : Bool), (∀ wv_11, Ext wv_2 wv_11 → Loads P 4 (((⟨r, 0, none⟩ : Addr).add 0).add 0) (.bool t15_1) wv_11) ∧ ((!t15_1) = true →
 ∃ (t190_2 : Bool) (t191_p_2 : Option Addr) (t191_n_2 : Nat) (t191_c_2 : Nat) (t192_2 : Int), (∀ wv_12, Ext wv_2 wv_12 → Loads P 58 ⟨r, 0, none⟩ (.agg #[(.bool t190_2), (.slice t191_p_2 t191_n_2 t191_c_2), (.int .i64 t192_2)]) wv_12) ∧ Calls P 88 ⟨[(.int .i64 1)]⟩ wv_2 fun e_5 wv_13 =>
 ∃ (t200_2 : Bool) (t201_p_2 : Option Addr) (t201_n_2 : Nat) (t201_c_2 : Nat), e_5 = .returned (.agg #[(.bool t200_2), (.slice t201_p_2 t201_n_2 t201_c_2)]) ∧
 Ext wv_2 wv_13 ∧ Calls P 87 ⟨[(.agg #[(.bool t190_2), (.slice t191_p_2 t191_n_2 t191_c_2), (.int .i64 t192_2)]), (.agg #[(.bool t200_2), (.slice t201_p_2 t201_n_2 t201_c_2), (.int .i64 0)])]⟩ wv_13 fun e_6 wv_14 =>
 ∃ (t22_2 : Int), e_6 = .returned (.int .i64 t22_2) ∧
 R (.bool (decide ((t22_2 : Int) ≤ 0))) wv_14) ∧
 ((!t15_1) = false →
 R (.bool false) wv_2)) ∧
 (false = false →
 (false = true →
 ∃ (t190_3 : Bool) (t191_p_3 : Option Addr) (t191_n_3 : Nat) (t191_c_3 : Nat) (t192_3 : Int), (∀ wv_15, Ext wv_2 wv_15 → Loads P 58 ⟨r, 0, none⟩ (.agg #[(.bool t190_3), (.slice t191_p_3 t191_n_3 t191_c_3), (.int .i64 t192_3)]) wv_15) ∧ Calls P 88 ⟨[(.int .i64 1)]⟩ wv_2 fun e_7 wv_16 =>
 ∃ (t200_3 : Bool) (t201_p_3 : Option Addr) (t201_n_3 : Nat) (t201_c_3 : Nat), e_7 = .returned (.agg #[(.bool t200_3), (.slice t201_p_3 t201_n_3 t201_c_3)]) ∧
 Ext wv_2 wv_16 ∧ Calls P 87 ⟨[(.agg #[(.bool t190_3), (.slice t191_p_3 t191_n_3 t191_c_3), (.int .i64 t192_3)]), (.agg #[(.bool t200_3), (.slice t201_p_3 t201_n_3 t201_c_3), (.int .i64 0)])]⟩ wv_16 fun e_8 wv_17 =>
 ∃ (t22_3 : Int), e_8 = .returned (.int .i64 t22_3) ∧
 R (.bool (decide ((t22_3 : Int) ≤ 0))) wv_17) ∧
 (false = false →
 R (.bool false) wv_2)))
theorem impl_TaxRateOk_ret {r0 : Bool} {r1_p : Option Addr} {r1_n : Nat} {r1_c : Nat} {r2 : Int} {w : World} {R : Value → World → Prop} (h : impl_TaxRateOk r0 r1_p r1_n r1_c r2 w R) : Ret P 63 [(.agg #[(.bool r0), (.slice r1_p r1_n r1_c), (.int .i64 r2)])] w R :=
  Ret.of_fsem Tryz.func63 rfl (Eq.mp (show _ = fsem P Tryz.f63 (fun k => []) _ R w from by kernel_rfl) h)
def impl_NatOk_j0 (a_p : Option Addr) (a_n : Nat) (W : World) (R : Value → World → Prop) : Prop :=
 ∃ (Inv : Int → World → Prop) (mu : Int → World → Nat), Inv 0 W ∧
 ∀ (junk : Fr) (wv : World) (t24 : Int), Inv t24 wv →
 ((decide ((t24 : Int) < ((a_n : Nat) : Int))) = true →
 (0 ≤ (t24 : Int) ∧ (t24 : Int) < (a_n : Nat)) ∧ ptrS a_p fun ad => ∃ (t27 : Int), Loads P 3 (ad.add (t24.toNat * 1)) (.int .i64 t27) wv ∧ ((decide ((t27 : Int) < 0)) = true →
 (true = true →
 R (.bool false) wv) ∧
 (true = false →
 ∃ t34 : Int, t34 = IntKind.wrap .i64 (t24 + 1) ∧ Inv t34 wv ∧ mu t34 wv < mu t24 wv)) ∧
 ((decide ((t27 : Int) < 0)) = false →
 ((decide ((1000000000 : Int) ≤ t27)) = true →
 R (.bool false) wv) ∧
 ((decide ((1000000000 : Int) ≤ t27)) = false →
 ∃ t34_1 : Int, t34_1 = IntKind.wrap .i64 (t24 + 1) ∧ Inv t34_1 wv ∧ mu t34_1 wv < mu t24 wv))) ∧
 ((decide ((t24 : Int) < ((a_n : Nat) : Int))) = false →
 R (.bool true) wv)
def impl_NatOk (a_p : Option Addr) (a_n : Nat) (a_c : Nat) (w : World) (R : Value → World → Prop) : Prop :=
 ((decide ((50 : Int) < ((a_n : Nat) : Int))) = true →
 (true = true →
 R (.bool false) w) ∧
 (true = false →
 impl_NatOk_j0 a_p a_n w R)) ∧
 ((decide ((50 : Int) < ((a_n : Nat) : Int))) = false →
 ((decide ((0 : Int) < ((a_n : Nat) : Int))) = true →
 ∃ t16 : Int, t16 = IntKind.wrap .i64 (((a_n : Nat) : Int) - 1) ∧ (0 ≤ (t16 : Int) ∧ (t16 : Int) < (a_n : Nat)) ∧ ptrS a_p fun ad_1 => ∃ (t18 : Int), Loads P 3 (ad_1.add (t16.toNat * 1)) (.int .i64 t18) w ∧ ((decide ((t18 : Int) = 0)) = true →
 R (.bool false) w) ∧
 ((decide ((t18 : Int) = 0)) = false →
 impl_NatOk_j0 a_p a_n w R)) ∧
 ((decide ((0 : Int) < ((a_n : Nat) : Int))) = false →
 (false = true →
 R (.bool false) w) ∧
 (false = false →
 impl_NatOk_j0 a_p a_n w R)))
theorem impl_NatOk_ret {a_p : Option Addr} {a_n : Nat} {a_c : Nat} {w : World} {R : Value → World → Prop} (h : impl_NatOk a_p a_n a_c w R) : Ret P 64 [(.slice a_p a_n a_c)] w R :=
  Ret.of_fsem Tryz.func64 rfl (Eq.mp (show _ = fsem P Tryz.f64 (fun k => cond (Nat.beq k 5) [(24, .one (.int .i64))] ([])) _ R w from by kernel_rfl) h)
def impl_natOf (n : Int) (w : World) (R : Value → World → Prop) : Prop :=
 ∀ (r : Nat) (wv : World), New w (.cells ⟨[]⟩ 3 (0, 0)) r wv →
 ∃ (Inv : Int → Option Addr → Nat → Nat → World → Prop) (mu : Int → Option Addr → Nat → Nat → World → Nat), Inv n (some ⟨r, 0, none⟩) 0 0 wv ∧
 ∀ (junk : Fr) (wv_1 : World) (n_1 : Int) (a_p : Option Addr) (a_n : Nat) (a_c : Nat), Inv n_1 a_p a_n a_c wv_1 →
 ((decide ((0 : Int) < n_1)) = true →
 (1000000000 : Int) ≠ 0 ∧ ∃ t9 : Int, t9 = Int.tmod n_1 1000000000 ∧ ∃ t10 : Int, t10 = IntKind.wrap .i64 t9 ∧ ∀ (r_1 : Nat) (wv_2 : World), New wv_1 (.cells ⟨[(.int .i64 t10)]⟩ 3 (0, 0)) r_1 wv_2 →
 ∃ (t12_p : Option Addr) (t12_n : Nat) (t12_c : Nat) (wv_3 : World), Appends P [23, 23] [(.slice a_p a_n a_c), (.slice (some ⟨r_1, 0, none⟩) 1 1)] (.slice t12_p t12_n t12_c) wv_2 wv_3 ∧
 (1000000000 : Int) ≠ 0 ∧ ∃ t14 : Int, t14 = IntKind.wrap .u64 (Int.tdiv n_1 1000000000) ∧ Inv t14 t12_p t12_n t12_c wv_3 ∧ mu t14 t12_p t12_n t12_c wv_3 < mu n_1 a_p a_n a_c wv_1) ∧
 ((decide ((0 : Int) < n_1)) = false →
 R (.slice a_p a_n a_c) wv_1)
theorem impl_natOf_ret {n : Int} {w : World} {R : Value → World → Prop} (h : impl_natOf n w R) : Ret P 66 [(.int .u64 n)] w R :=
  Ret.of_fsem Tryz.func66 rfl (Eq.mp (show _ = fsem P Tryz.f66 (fun k => cond (Nat.beq k 3) [(0, .one (.int .u64)), (3, .one .slice)] ([])) _ R w from by kernel_rfl) h)
def impl_trim (a_p : Option Addr) (a_n : Nat) (a_c : Nat) (w : World) (R : Value → World → Prop) : Prop :=
 ∃ (Inv : Option Addr → Nat → Nat → World → Prop) (mu : Option Addr → Nat → Nat → World → Nat), Inv a_p a_n a_c w ∧
 ∀ (junk : Fr) (wv : World) (a_p_1 : Option Addr) (a_n_1 : Nat) (a_c_1 : Nat), Inv a_p_1 a_n_1 a_c_1 wv →
 ((decide ((0 : Int) < ((a_n_1 : Nat) : Int))) = true →
 ∃ t10 : Int, t10 = IntKind.wrap .i64 (((a_n_1 : Nat) : Int) - 1) ∧ (0 ≤ (t10 : Int) ∧ (t10 : Int) < (a_n_1 : Nat)) ∧ ptrS a_p_1 fun ad => ∃ (t12 : Int), Loads P 3 (ad.add (t10.toNat * 1)) (.int .i64 t12) wv ∧ ((decide ((t12 : Int) = 0)) = true →
 ∃ t18 : Int, t18 = IntKind.wrap .i64 (((a_n_1 : Nat) : Int) - 1) ∧ (0 ≤ (t18 : Int) ∧ (t18 : Int) ≤ (a_c_1 : Nat)) ∧ Inv (sub a_p_1 0 a_c_1 1) (t18.toNat - 0) (a_c_1 - 0) wv ∧ mu (sub a_p_1 0 a_c_1 1) (t18.toNat - 0) (a_c_1 - 0) wv < mu a_p_1 a_n_1 a_c_1 wv) ∧
 ((decide ((t12 : Int) = 0)) = false →
 R (.slice a_p_1 a_n_1 a_c_1) wv)) ∧
 ((decide ((0 : Int) < ((a_n_1 : Nat) : Int))) = false →
 (false = true →
 ∃ t18_1 : Int, t18_1 = IntKind.wrap .i64 (((a_n_1 : Nat) : Int) - 1) ∧ (0 ≤ (t18_1 : Int) ∧ (t18_1 : Int) ≤ (a_c_1 : Nat)) ∧ Inv (sub a_p_1 0 a_c_1 1) (t18_1.toNat - 0) (a_c_1 - 0) wv ∧ mu (sub a_p_1 0 a_c_1 1) (t18_1.toNat - 0) (a_c_1 - 0) wv < mu a_p_1 a_n_1 a_c_1 wv) ∧
 (false = false →
 R (.slice a_p_1 a_n_1 a_c_1) wv))
theorem impl_trim_ret {a_p : Option Addr} {a_n : Nat} {a_c : Nat} {w : World} {R : Value → World → Prop} (h : impl_trim a_p a_n a_c w R) : Ret P 67 [(.slice a_p a_n a_c)] w R :=
  Ret.of_fsem Tryz.func67 rfl (Eq.mp (show _ = fsem P Tryz.f67 (fun k => cond (Nat.beq k 2) [(0, .one .slice)] ([])) _ R w from by kernel_rfl) h)
def impl_ratsOk (r0 : Bool) (r1_p : Option Addr) (r1_n : Nat) (r1_c : Nat) (r2_p : Option Addr) (r2_n : Nat) (r2_c : Nat) (s0 : Bool) (s1_p : Option Addr) (s1_n : Nat) (s1_c : Nat) (s2_p : Option Addr) (s2_n : Nat) (s2_c : Nat) (w : World) (R : Value → World → Prop) : Prop :=
 ∀ (r : Nat) (wv : World), New w (.cells ⟨[(.bool r0), (.slice r1_p r1_n r1_c), (.slice r2_p r2_n r2_c)]⟩ 30 (0, 0)) r wv →
 ∀ (r_1 : Nat) (wv_1 : World), New wv (.cells ⟨[(.bool s0), (.slice s1_p s1_n s1_c), (.slice s2_p s2_n s2_c)]⟩ 30 (0, 0)) r_1 wv_1 →
 ∃ (t50 : Bool) (t51_p : Option Addr) (t51_n : Nat) (t51_c : Nat) (t52_p : Option Addr) (t52_n : Nat) (t52_c : Nat), Loads P 30 ⟨r, 0, none⟩ (.agg #[(.bool t50), (.slice t51_p t51_n t51_c), (.slice t52_p t52_n t52_c)]) wv_1 ∧ Calls P 89 ⟨[(.agg #[(.bool t50), (.slice t51_p t51_n t51_c), (.slice t52_p t52_n t52_c)])]⟩ wv_1 fun e wv_2 =>
 ∃ (t6 : Bool), e = .returned (.bool t6) ∧
 (t6 = true →
 ∃ (t80 : Bool) (t81_p : Option Addr) (t81_n : Nat) (t81_c : Nat) (t82_p : Option Addr) (t82_n : Nat) (t82_c : Nat), Loads P 30 ⟨r_1, 0, none⟩ (.agg #[(.bool t80), (.slice t81_p t81_n t81_c), (.slice t82_p t82_n t82_c)]) wv_2 ∧ Calls P 89 ⟨[(.agg #[(.bool t80), (.slice t81_p t81_n t81_c), (.slice t82_p t82_n t82_c)])]⟩ wv_2 fun e_1 wv_3 =>
 ∃ (t9 : Bool), e_1 = .returned (.bool t9) ∧
 R (.bool t9) wv_3) ∧
 (t6 = false →
 R (.bool false) wv_2)
theorem impl_ratsOk_ret {r0 : Bool} {r1_p : Option Addr} {r1_n : Nat} {r1_c : Nat} {r2_p : Option Addr} {r2_n : Nat} {r2_c : Nat} {s0 : Bool} {s1_p : Option Addr} {s1_n : Nat} {s1_c : Nat} {s2_p : Option Addr} {s2_n : Nat} {s2_c : Nat} {w : World} {R : Value → World → Prop} (h : impl_ratsOk r0 r1_p r1_n r1_c r2_p r2_n r2_c s0 s1_p s1_n s1_c s2_p s2_n s2_c w R) : Ret P 68 [(.agg #[(.bool r0), (.slice r1_p r1_n r1_c), (.slice r2_p r2_n r2_c)]), (.agg #[(.bool s0), (.slice s1_p s1_n s1_c), (.slice s2_p s2_n s2_c)])] w R :=
  Ret.of_fsem Tryz.func68 rfl (Eq.mp (show _ = fsem P Tryz.f68 (fun k => []) _ R w from by kernel_rfl) h)
def impl_reduce (num0 : Bool) (num1_p : Option Addr) (num1_n : Nat) (num1_c : Nat) (den_p : Option Addr) (den_n : Nat) (den_c : Nat) (w : World) (R : Value → World → Prop) : Prop :=
 ∀ (r : Nat) (wv : World), New w (.cells ⟨[(.bool num0), (.slice num1_p num1_n num1_c)]⟩ 28 (0, 0)) r wv →
 ∀ (r_1 : Nat) (wv_1 : World), New wv (.cells ⟨[(.bool false), (.slice none 0 0), (.slice none 0 0)]⟩ 30 (0, 0)) r_1 wv_1 →
 ∃ (t12_p : Option Addr) (t12_n : Nat) (t12_c : Nat), Loads P 23 ((⟨r, 0, none⟩ : Addr).add 1) (.slice t12_p t12_n t12_c) wv_1 ∧ Calls P 90 ⟨[(.slice t12_p t12_n t12_c), (.slice den_p den_n den_c)]⟩ wv_1 fun e wv_2 =>
 ∃ (t14_p : Option Addr) (t14_n : Nat) (t14_c : Nat), e = .returned (.slice t14_p t14_n t14_c) ∧
 ∃ (t17_p : Option Addr) (t17_n : Nat) (t17_c : Nat), Loads P 23 ((⟨r, 0, none⟩ : Addr).add 1) (.slice t17_p t17_n t17_c) wv_2 ∧ Calls P 91 ⟨[(.slice t17_p t17_n t17_c), (.slice t14_p t14_n t14_c)]⟩ wv_2 fun e_1 wv_3 =>
 ∃ (t19_p : Option Addr) (t19_n : Nat) (t19_c : Nat) (t19_p_1 : Option Addr) (t19_n_1 : Nat) (t19_c_1 : Nat), e_1 = .returned (.tuple #[(.slice t19_p t19_n t19_c), (.slice t19_p_1 t19_n_1 t19_c_1)]) ∧
 Calls P 91 ⟨[(.slice den_p den_n den_c), (.slice t14_p t14_n t14_c)]⟩ wv_3 fun e_2 wv_4 =>
 ∃ (t25_p : Option Addr) (t25_n : Nat) (t25_c : Nat) (t25_p_1 : Option Addr) (t25_n_1 : Nat) (t25_c_1 : Nat), e_2 = .returned (.tuple #[(.slice t25_p t25_n t25_c), (.slice t25_p_1 t25_n_1 t25_c_1)]) ∧
 ((decide ((18 : Int) < ((t19_n : Nat) : Int))) = true →
 (true = true →
 ∃ wv_5, Stores P 30 ⟨r_1, 0, none⟩ (.agg #[(.bool false), (.slice none 0 0), (.slice none 0 0)]) wv_4 wv_5 ∧
 ∃ (r0 : Bool) (r1_p : Option Addr) (r1_n : Nat) (r1_c : Nat) (r2_p : Option Addr) (r2_n : Nat) (r2_c : Nat), Loads P 30 ⟨r_1, 0, none⟩ (.agg #[(.bool r0), (.slice r1_p r1_n r1_c), (.slice r2_p r2_n r2_c)]) wv_5 ∧ R (.tuple #[(.agg #[(.bool r0), (.slice r1_p r1_n r1_c), (.slice r2_p r2_n r2_c)]), (.bool false)]) wv_5) ∧
 (true = false →
 ∃ (t38 : Bool), Loads P 4 ((⟨r, 0, none⟩ : Addr).add 0) (.bool t38) wv_4 ∧ Calls P 92 ⟨[(.bool t38), (.slice t19_p t19_n t19_c)]⟩ wv_4 fun e_3 wv_6 =>
 ∃ (t400 : Bool) (t401_p : Option Addr) (t401_n : Nat) (t401_c : Nat), e_3 = .returned (.agg #[(.bool t400), (.slice t401_p t401_n t401_c)]) ∧
 ∃ wv_7, Stores P 30 ⟨r_1, 0, none⟩ (.agg #[(.bool t400), (.slice t401_p t401_n t401_c), (.slice t25_p t25_n t25_c)]) wv_6 wv_7 ∧
 ∃ (r0_1 : Bool) (r1_p_1 : Option Addr) (r1_n_1 : Nat) (r1_c_1 : Nat) (r2_p_1 : Option Addr) (r2_n_1 : Nat) (r2_c_1 : Nat), Loads P 30 ⟨r_1, 0, none⟩ (.agg #[(.bool r0_1), (.slice r1_p_1 r1_n_1 r1_c_1), (.slice r2_p_1 r2_n_1 r2_c_1)]) wv_7 ∧ R (.tuple #[(.agg #[(.bool r0_1), (.slice r1_p_1 r1_n_1 r1_c_1), (.slice r2_p_1 r2_n_1 r2_c_1)]), (.bool true)]) wv_7)) ∧
 ((decide ((18 : Int) < ((t19_n : Nat) : Int))) = false →
 ((decide ((18 : Int) < ((t25_n : Nat) : Int))) = true →
 ∃ wv_8, Stores P 30 ⟨r_1, 0, none⟩ (.agg #[(.bool false), (.slice none 0 0), (.slice none 0 0)]) wv_4 wv_8 ∧
 ∃ (r0_2 : Bool) (r1_p_2 : Option Addr) (r1_n_2 : Nat) (r1_c_2 : Nat) (r2_p_2 : Option Addr) (r2_n_2 : Nat) (r2_c_2 : Nat), Loads P 30 ⟨r_1, 0, none⟩ (.agg #[(.bool r0_2), (.slice r1_p_2 r1_n_2 r1_c_2), (.slice r2_p_2 r2_n_2 r2_c_2)]) wv_8 ∧ R (.tuple #[(.agg #[(.bool r0_2), (.slice r1_p_2 r1_n_2 r1_c_2), (.slice r2_p_2 r2_n_2 r2_c_2)]), (.bool false)]) wv_8) ∧
 ((decide ((18 : Int) < ((t25_n : Nat) : Int))) = false →
 ∃ (t38_1 : Bool), Loads P 4 ((⟨r, 0, none⟩ : Addr).add 0) (.bool t38_1) wv_4 ∧ Calls P 92 ⟨[(.bool t38_1), (.slice t19_p t19_n t19_c)]⟩ wv_4 fun e_4 wv_9 =>
 ∃ (t400_1 : Bool) (t401_p_1 : Option Addr) (t401_n_1 : Nat) (t401_c_1 : Nat), e_4 = .returned (.agg #[(.bool t400_1), (.slice t401_p_1 t401_n_1 t401_c_1)]) ∧
 ∃ wv_10, Stores P 30 ⟨r_1, 0, none⟩ (.agg #[(.bool t400_1), (.slice t401_p_1 t401_n_1 t401_c_1), (.slice t25_p t25_n t25_c)]) wv_9 wv_10 ∧
 ∃ (r0_3 : Bool) (r1_p_3 : Option Addr) (r1_n_3 : Nat) (r1_c_3 : Nat) (r2_p_3 : Option Addr) (r2_n_3 : Nat) (r2_c_3 : Nat), Loads P 30 ⟨r_1, 0, none⟩ (.agg #[(.bool r0_3), (.slice r1_p_3 r1_n_3 r1_c_3), (.slice r2_p_3 r2_n_3 r2_c_3)]) wv_10 ∧ R (.tuple #[(.agg #[(.bool r0_3), (.slice r1_p_3 r1_n_3 r1_c_3), (.slice r2_p_3 r2_n_3 r2_c_3)]), (.bool true)]) wv_10))
theorem impl_reduce_ret {num0 : Bool} {num1_p : Option Addr} {num1_n : Nat} {num1_c : Nat} {den_p : Option Addr} {den_n : Nat} {den_c : Nat} {w : World} {R : Value → World → Prop} (h : impl_reduce num0 num1_p num1_n num1_c den_p den_n den_c w R) : Ret P 69 [(.agg #[(.bool num0), (.slice num1_p num1_n num1_c)]), (.slice den_p den_n den_c)] w R :=
  Ret.of_fsem Tryz.func69 rfl (Eq.mp (show _ = fsem P Tryz.f69 (fun k => []) _ R w from by kernel_rfl) h)
def impl_intMul (x0 : Bool) (x1_p : Option Addr) (x1_n : Nat) (x1_c : Nat) (y0 : Bool) (y1_p : Option Addr) (y1_n : Nat) (y1_c : Nat) (w : World) (R : Value → World → Prop) : Prop :=
 ∀ (r : Nat) (wv : World), New w (.cells ⟨[(.bool x0), (.slice x1_p x1_n x1_c)]⟩ 28 (0, 0)) r wv →
 ∀ (r_1 : Nat) (wv_1 : World), New wv (.cells ⟨[(.bool y0), (.slice y1_p y1_n y1_c)]⟩ 28 (0, 0)) r_1 wv_1 →
 ∀ (r_2 : Nat) (wv_2 : World), New wv_1 (.cells ⟨[(.bool false), (.slice none 0 0)]⟩ 28 (0, 0)) r_2 wv_2 →
 ∃ (t6 : Bool), (∀ wv_3, Ext wv_2.drew wv_3 → Loads P 4 ((⟨r, 0, none⟩ : Addr).add 0) (.bool t6) wv_3) ∧ ∃ (t8 : Bool), (∀ wv_4, Ext wv_2.drew wv_4 → Loads P 4 ((⟨r_1, 0, none⟩ : Addr).add 0) (.bool t8) wv_4) ∧ ∃ (t11_p : Option Addr) (t11_n : Nat) (t11_c : Nat), (∀ wv_5, Ext wv_2.drew wv_5 → Loads P 23 ((⟨r, 0, none⟩ : Addr).add 1) (.slice t11_p t11_n t11_c) wv_5) ∧ ∃ (t13_p : Option Addr) (t13_n : Nat) (t13_c : Nat), (∀ wv_6, Ext wv_2.drew wv_6 → Loads P 23 ((⟨r_1, 0, none⟩ : Addr).add 1) (.slice t13_p t13_n t13_c) wv_6) ∧ Calls P 71 ⟨[(.slice t11_p t11_n t11_c), (.slice t13_p t13_n t13_c)]⟩ wv_2.drew fun e wv_7 =>
 ∃ (t14_p : Option Addr) (t14_n : Nat) (t14_c : Nat), e = .returned (.slice t14_p t14_n t14_c) ∧
 Ext wv_2.drew wv_7 ∧ Calls P 92 ⟨[(.bool (!(t6 == t8))), (.slice t14_p t14_n t14_c)]⟩ wv_7 fun e_1 wv_8 =>
 ∃ (t150 : Bool) (t151_p : Option Addr) (t151_n : Nat) (t151_c : Nat), e_1 = .returned (.agg #[(.bool t150), (.slice t151_p t151_n t151_c)]) ∧
 ∃ wv_9, Stores P 28 ⟨r_2, 0, none⟩ (.agg #[(.bool t150), (.slice t151_p t151_n t151_c)]) wv_8 wv_9 ∧
 ∃ (r0 : Bool) (r1_p : Option Addr) (r1_n : Nat) (r1_c : Nat), Loads P 28 ⟨r_2, 0, none⟩ (.agg #[(.bool r0), (.slice r1_p r1_n r1_c)]) wv_9 ∧ R (.agg #[(.bool r0), (.slice r1_p r1_n r1_c)]) wv_9
theorem impl_intMul_ret {x0 : Bool} {x1_p : Option Addr} {x1_n : Nat} {x1_c : Nat} {y0 : Bool} {y1_p : Option Addr} {y1_n : Nat} {y1_c : Nat} {w : World} {R : Value → World → Prop} (h : impl_intMul x0 x1_p x1_n x1_c y0 y1_p y1_n y1_c w R) : Ret P 70 [(.agg #[(.bool x0), (.slice x1_p x1_n x1_c)]), (.agg #[(.bool y0), (.slice y1_p y1_n y1_c)])] w R :=
  Ret.of_fsem Tryz.func70 rfl (Eq.mp (show _ = fsem P Tryz.f70 (fun k => []) _ R w from by kernel_rfl) h)
def impl_natMul (a_p : Option Addr) (a_n : Nat) (a_c : Nat) (b_p : Option Addr) (b_n : Nat) (b_c : Nat) (w : World) (R : Value → World → Prop) : Prop :=
 ∃ t16 : Int, t16 = IntKind.wrap .i64 (((a_n : Nat) : Int) + ((b_n : Nat) : Int)) ∧ ∃ t17 : Int, t17 = IntKind.wrap .i64 (t16 + 1) ∧ (0 ≤ (t17 : Int) ∧ (t17 : Int) ≤ t17 ∧ ((8 : Nat) : Int) * t17 ≤ 281474976710656) ∧
 ∀ (r : Nat) (wv : World), New w (.cells ⟨zeroRow (.int .i64 0) (t17.toNat * 1)⟩ 3 (0, 0)) r wv →
 ∃ (Inv : Int → World → Prop) (mu : Int → World → Nat), Inv 0 wv ∧
 ∀ (junk : Fr) (wv_1 : World) (t21 : Int), Inv t21 wv_1 →
 ((decide ((t21 : Int) < ((a_n : Nat) : Int))) = true →
 (0 ≤ (t21 : Int) ∧ (t21 : Int) < (a_n : Nat)) ∧ ptrS a_p fun ad => ∃ (t25 : Int), Loads P 3 (ad.add (t21.toNat * 1)) (.int .i64 t25) wv_1 ∧ ∃ (Inv_1 : Int → Int → World → Prop) (mu_1 : Int → Int → World → Nat), Inv_1 0 0 wv_1 ∧
 ∀ (junk_1 : Fr) (wv_2 : World) (carry : Int) (t28 : Int), Inv_1 carry t28 wv_2 →
 ((decide ((t28 : Int) < ((b_n : Nat) : Int))) = true →
 (0 ≤ (t28 : Int) ∧ (t28 : Int) < (b_n : Nat)) ∧ ptrS b_p fun ad_1 => ∃ (t32 : Int), Loads P 3 (ad_1.add (t28.toNat * 1)) (.int .i64 t32) wv_2 ∧ ∃ t37 : Int, t37 = IntKind.wrap .i64 (t21 + t28) ∧ (0 ≤ (t37 : Int) ∧ (t37 : Int) < (t17.toNat : Nat)) ∧ ∃ (t39 : Int), Loads P 3 ((⟨r, 0, none⟩ : Addr).add (t37.toNat * 1)) (.int .i64 t39) wv_2 ∧ ∃ t42 : Int, t42 = IntKind.wrap .i64 (t25 * t32) ∧ ∃ t43 : Int, t43 = IntKind.wrap .i64 (t39 + t42) ∧ ∃ t44 : Int, t44 = IntKind.wrap .i64 (carry + t43) ∧ ∃ t48 : Int, t48 = IntKind.wrap .i64 (t21 + t28) ∧ (1000000000 : Int) ≠ 0 ∧ ∃ t50 : Int, t50 = Int.tmod t44 1000000000 ∧ (0 ≤ (t48 : Int) ∧ (t48 : Int) < (t17.toNat : Nat)) ∧ ∃ wv_3, Stores P 3 ((⟨r, 0, none⟩ : Addr).add (t48.toNat * 1)) (.int .i64 t50) wv_2 wv_3 ∧
 (1000000000 : Int) ≠ 0 ∧ ∃ t53 : Int, t53 = IntKind.wrap .i64 (Int.tdiv t44 1000000000) ∧ ∃ t54 : Int, t54 = IntKind.wrap .i64 (t28 + 1) ∧ Inv_1 t53 t54 wv_3 ∧ mu_1 t53 t54 wv_3 < mu_1 carry t28 wv_2) ∧
 ((decide ((t28 : Int) < ((b_n : Nat) : Int))) = false →
 ∃ t58 : Int, t58 = IntKind.wrap .i64 (t21 + ((b_n : Nat) : Int)) ∧ ∃ (Inv_2 : Int → Int → World → Prop) (mu_2 : Int → Int → World → Nat), Inv_2 carry t58 wv_2 ∧
 ∀ (junk_2 : Fr) (wv_4 : World) (carry_1 : Int) (k : Int), Inv_2 carry_1 k wv_4 →
 ((decide ((0 : Int) < carry_1)) = true →
 (0 ≤ (k : Int) ∧ (k : Int) < (t17.toNat : Nat)) ∧ ∃ (t67 : Int), Loads P 3 ((⟨r, 0, none⟩ : Addr).add (k.toNat * 1)) (.int .i64 t67) wv_4 ∧ ∃ t68 : Int, t68 = IntKind.wrap .i64 (carry_1 + t67) ∧ (1000000000 : Int) ≠ 0 ∧ ∃ t72 : Int, t72 = Int.tmod t68 1000000000 ∧ (0 ≤ (k : Int) ∧ (k : Int) < (t17.toNat : Nat)) ∧ ∃ wv_5, Stores P 3 ((⟨r, 0, none⟩ : Addr).add (k.toNat * 1)) (.int .i64 t72) wv_4 wv_5 ∧
 (1000000000 : Int) ≠ 0 ∧ ∃ t75 : Int, t75 = IntKind.wrap .i64 (Int.tdiv t68 1000000000) ∧ ∃ t62 : Int, t62 = IntKind.wrap .i64 (k + 1) ∧ Inv_2 t75 t62 wv_5 ∧ mu_2 t75 t62 wv_5 < mu_2 carry_1 k wv_4) ∧
 ((decide ((0 : Int) < carry_1)) = false →
 ∃ t76 : Int, t76 = IntKind.wrap .i64 (t21 + 1) ∧ Inv t76 wv_4 ∧ mu t76 wv_4 < mu t21 wv_1))) ∧
 ((decide ((t21 : Int) < ((a_n : Nat) : Int))) = false →
 Calls P 67 ⟨[(.slice (some ⟨r, 0, none⟩) t17.toNat t17.toNat)]⟩ wv_1 fun e wv_6 =>
 ∃ (t78_p : Option Addr) (t78_n : Nat) (t78_c : Nat), e = .returned (.slice t78_p t78_n t78_c) ∧
 R (.slice t78_p t78_n t78_c) wv_6)
theorem impl_natMul_ret {a_p : Option Addr} {a_n : Nat} {a_c : Nat} {b_p : Option Addr} {b_n : Nat} {b_c : Nat} {w : World} {R : Value → World → Prop} (h : impl_natMul a_p a_n a_c b_p b_n b_c w R) : Ret P 71 [(.slice a_p a_n a_c), (.slice b_p b_n b_c)] w R :=
  Ret.of_fsem Tryz.func71 rfl (Eq.mp (show _ = fsem P Tryz.f71 (fun k => cond (Nat.beq k 4) [(21, .one (.int .i64))] (cond (Nat.beq k 8) [(8, .one (.int .i64)), (28, .one (.int .i64))] (cond (Nat.beq k 15) [(8, .one (.int .i64)), (11, .one (.int .i64))] ([])))) _ R w from by kernel_rfl) h)
def impl_DecOk (d0 : Bool) (d1_p : Option Addr) (d1_n : Nat) (d1_c : Nat) (d2 : Int) (w : World) (R : Value → World → Prop) : Prop :=
 ∀ (r : Nat) (wv : World), New w (.cells ⟨[(.bool d0), (.slice d1_p d1_n d1_c), (.int .i64 d2)]⟩ 58 (0, 0)) r wv →
 ∃ (t40 : Bool) (t41_p : Option Addr) (t41_n : Nat) (t41_c : Nat), Loads P 28 ((⟨r, 0, none⟩ : Addr).add 0) (.agg #[(.bool t40), (.slice t41_p t41_n t41_c)]) wv ∧ Calls P 33 ⟨[(.agg #[(.bool t40), (.slice t41_p t41_n t41_c)])]⟩ wv fun e wv_1 =>
 ∃ (t5 : Bool), e = .returned (.bool t5) ∧
 (t5 = true →
 ∃ (t9_p : Option Addr) (t9_n : Nat) (t9_c : Nat), Loads P 23 (((⟨r, 0, none⟩ : Addr).add 0).add 1) (.slice t9_p t9_n t9_c) wv_1 ∧ ((decide ((((t9_n : Nat) : Int) : Int) ≤ 6)) = true →
 ∃ (t15 : Int), Loads P 3 ((⟨r, 0, none⟩ : Addr).add 2) (.int .i64 t15) wv_1 ∧ Calls P 93 ⟨[(.int .i64 t15)]⟩ wv_1 fun e_1 wv_2 =>
 ∃ (t16 : Bool), e_1 = .returned (.bool t16) ∧
 R (.bool t16) wv_2) ∧
 ((decide ((((t9_n : Nat) : Int) : Int) ≤ 6)) = false →
 R (.bool false) wv_1)) ∧
 (t5 = false →
 (false = true →
 ∃ (t15_1 : Int), Loads P 3 ((⟨r, 0, none⟩ : Addr).add 2) (.int .i64 t15_1) wv_1 ∧ Calls P 93 ⟨[(.int .i64 t15_1)]⟩ wv_1 fun e_2 wv_3 =>
 ∃ (t16_1 : Bool), e_2 = .returned (.bool t16_1) ∧
 R (.bool t16_1) wv_3) ∧
 (false = false →
 R (.bool false) wv_1))
theorem impl_DecOk_ret {d0 : Bool} {d1_p : Option Addr} {d1_n : Nat} {d1_c : Nat} {d2 : Int} {w : World} {R : Value → World → Prop} (h : impl_DecOk d0 d1_p d1_n d1_c d2 w R) : Ret P 72 [(.agg #[(.bool d0), (.slice d1_p d1_n d1_c), (.int .i64 d2)])] w R :=
  Ret.of_fsem Tryz.func72 rfl (Eq.mp (show _ = fsem P Tryz.f72 (fun k => []) _ R w from by kernel_rfl) h)
def impl_natTen (k : Int) (w : World) (R : Value → World → Prop) : Prop :=
 (9 : Int) ≠ 0 ∧ ∃ t6 : Int, t6 = IntKind.wrap .i64 (Int.tdiv k 9) ∧ (9 : Int) ≠ 0 ∧ ∃ t8 : Int, t8 = IntKind.wrap .i64 (Int.tdiv k 9) ∧ ∃ t9 : Int, t9 = IntKind.wrap .i64 (t8 + 1) ∧ (0 ≤ (t6 : Int) ∧ (t6 : Int) ≤ t9 ∧ ((8 : Nat) : Int) * t9 ≤ 281474976710656) ∧
 ∀ (r : Nat) (wv : World), New w (.cells ⟨zeroRow (.int .i64 0) (t9.toNat * 1)⟩ 3 (0, 0)) r wv →
 (9 : Int) ≠ 0 ∧ ∃ t12 : Int, t12 = Int.tmod k 9 ∧ ∃ (Inv : Int → Int → World → Prop) (mu : Int → Int → World → Nat), Inv 1 0 wv ∧
 ∀ (junk : Fr) (wv_1 : World) (top : Int) (t13 : Int), Inv top t13 wv_1 →
 ((decide ((t13 : Int) < t12)) = true →
 ∃ t16 : Int, t16 = IntKind.wrap .i64 (top * 10) ∧ ∃ t17 : Int, t17 = IntKind.wrap .i64 (t13 + 1) ∧ Inv t16 t17 wv_1 ∧ mu t16 t17 wv_1 < mu top t13 wv_1) ∧
 ((decide ((t13 : Int) < t12)) = false →
 ∀ (r_1 : Nat) (wv_2 : World), New wv_1 (.cells ⟨[(.int .i64 top)]⟩ 3 (0, 0)) r_1 wv_2 →
 ∃ (t21_p : Option Addr) (t21_n : Nat) (t21_c : Nat) (wv_3 : World), Appends P [23, 23] [(.slice (some ⟨r, 0, none⟩) t6.toNat t9.toNat), (.slice (some ⟨r_1, 0, none⟩) 1 1)] (.slice t21_p t21_n t21_c) wv_2 wv_3 ∧
 R (.slice t21_p t21_n t21_c) wv_3)
theorem impl_natTen_ret {k : Int} {w : World} {R : Value → World → Prop} (h : impl_natTen k w R) : Ret P 73 [(.int .i64 k)] w R :=
  Ret.of_fsem Tryz.func73 rfl (Eq.mp (show _ = fsem P Tryz.f73 (fun k => cond (Nat.beq k 5) [(4, .one (.int .i64)), (13, .one (.int .i64))] ([])) _ R w from by kernel_rfl) h)
def impl_Rat_num (r0 : Bool) (r1_p : Option Addr) (r1_n : Nat) (r1_c : Nat) (r2_p : Option Addr) (r2_n : Nat) (r2_c : Nat) (by_p : Option Addr) (by_n : Nat) (by_c : Nat) (w : World) (R : Value → World → Prop) : Prop :=
 ∀ (r : Nat) (wv : World), New w (.cells ⟨[(.bool r0), (.slice r1_p r1_n r1_c), (.slice r2_p r2_n r2_c)]⟩ 30 (0, 0)) r wv →
 ∀ (r_1 : Nat) (wv_1 : World), New wv (.cells ⟨[(.bool false), (.slice none 0 0)]⟩ 28 (0, 0)) r_1 wv_1 →
 ∃ (t7 : Bool), (∀ wv_2, Ext wv_1.drew wv_2 → Loads P 4 (((⟨r, 0, none⟩ : Addr).add 0).add 0) (.bool t7) wv_2) ∧ ∃ (t10_p : Option Addr) (t10_n : Nat) (t10_c : Nat), (∀ wv_3, Ext wv_1.drew wv_3 → Loads P 23 (((⟨r, 0, none⟩ : Addr).add 0).add 1) (.slice t10_p t10_n t10_c) wv_3) ∧ Calls P 71 ⟨[(.slice t10_p t10_n t10_c), (.slice by_p by_n by_c)]⟩ wv_1.drew fun e wv_4 =>
 ∃ (t12_p : Option Addr) (t12_n : Nat) (t12_c : Nat), e = .returned (.slice t12_p t12_n t12_c) ∧
 Ext wv_1.drew wv_4 ∧ Calls P 92 ⟨[(.bool t7), (.slice t12_p t12_n t12_c)]⟩ wv_4 fun e_1 wv_5 =>
 ∃ (t130 : Bool) (t131_p : Option Addr) (t131_n : Nat) (t131_c : Nat), e_1 = .returned (.agg #[(.bool t130), (.slice t131_p t131_n t131_c)]) ∧
 ∃ wv_6, Stores P 28 ⟨r_1, 0, none⟩ (.agg #[(.bool t130), (.slice t131_p t131_n t131_c)]) wv_5 wv_6 ∧
 ∃ (r0_1 : Bool) (r1_p_1 : Option Addr) (r1_n_1 : Nat) (r1_c_1 : Nat), Loads P 28 ⟨r_1, 0, none⟩ (.agg #[(.bool r0_1), (.slice r1_p_1 r1_n_1 r1_c_1)]) wv_6 ∧ R (.agg #[(.bool r0_1), (.slice r1_p_1 r1_n_1 r1_c_1)]) wv_6
theorem impl_Rat_num_ret {r0 : Bool} {r1_p : Option Addr} {r1_n : Nat} {r1_c : Nat} {r2_p : Option Addr} {r2_n : Nat} {r2_c : Nat} {by_p : Option Addr} {by_n : Nat} {by_c : Nat} {w : World} {R : Value → World → Prop} (h : impl_Rat_num r0 r1_p r1_n r1_c r2_p r2_n r2_c by_p by_n by_c w R) : Ret P 74 [(.agg #[(.bool r0), (.slice r1_p r1_n r1_c), (.slice r2_p r2_n r2_c)]), (.slice by_p by_n by_c)] w R :=
  Ret.of_fsem Tryz.func74 rfl (Eq.mp (show _ = fsem P Tryz.f74 (fun k => []) _ R w from by kernel_rfl) h)
end Go.Proofs.YtmajiilehdpdmaaGreat
