/-
  Parts of the proof of fnTaxIn_holds: G7, G8, G9, G10, G11, G12, G13.
  Conditions: none.
-/
import Derived.Test.YtbgokfhcgcoipaaGreatDoorTi1
set_option linter.unusedVariables false

namespace Go.Proofs.YtbgokfhcgcoipaaGreatDoor
variable {w : World} {R : Value -> World -> Prop}
open Go Go.Proofs.YtbgokfhcgcoipaaGreatDoor.Sx
set_option maxRecDepth 100000
def impl_TaxOn_j0 (mode : Int) (r a0 : Nat) (a1 a2 : Nat) (W : World) (R : Value -> World -> Prop) : Prop :=
 ∃ a3 a4 a5 a6 a7, (∀ wv_7, Ext W.drew wv_7 -> Loads P 33 ⟨r, 0, none⟩ (.agg #[.string a3, .bool a4, .slice a5 a6 a7]) wv_7) /\ ∀ (ss : List (Option Nat)) (a8 : World), Fl [.cells ⟨[.bool false, .slice none 0 0, .slice none 0 0]⟩ 60 (0, 0)] [none] W.drew ss a8 ->
 Calls P 35 ⟨[.agg #[.string a3, .bool a4, .slice a5 a6 a7]]⟩ a8 fun a9 aa =>
 ∃ ab ac ae af ag ah ai, a9 = .returned (.agg #[.bool ab, .slice ac ae af, .slice ag ah ai]) /\
 Ext a8 aa /\ ∃ aj ak al am an, (∀ wv_10, Ext W.drew wv_10 -> Loads P 36 ⟨a0, 0, none⟩ (.agg #[.bool aj, .slice ak al am, .int .i64 an]) wv_10) /\ ∀ (ss_1 : List (Option Nat)) (ao : World), Fl [.cells ⟨[.bool false, .slice none 0 0, .slice none 0 0]⟩ 60 (0, 0)] ss aa ss_1 ao ->
 Calls P 33 ⟨[.agg #[.bool aj, .slice ak al am, .int .i64 an]]⟩ ao fun ap aq =>
 ∃ ar au av aw ax ay az, ap = .returned (.agg #[.bool ar, .slice au av aw, .slice ax ay az]) /\
 ∀ (ss_2 : List (Option Nat)) (b0 : World), Fl [.cells ⟨[.bool false, .slice none 0 0, .slice none 0 0]⟩ 60 (0, 0)] ss_1 aq ss_2 b0 ->
 Calls P 34 ⟨[.agg #[.bool ab, .slice ac ae af, .slice ag ah ai], .agg #[.bool ar, .slice au av aw, .slice ax ay az]]⟩ b0 fun b1 b2 =>
 ∃ b3 b4 b5 b6 b7 b8 b9 ba, b1 = .returned (.tuple #[.agg #[.bool b3, .slice b4 b5 b6, .slice b7 b8 b9], .bool ba]) /\
 ∀ (ss_3 : List (Option Nat)) (bb : World) (bc : Nat), Fl [.cells ⟨[.bool false, .slice none 0 0, .slice none 0 0]⟩ 60 (0, 0)] ss_2 b2 ss_3 bb -> ss_3[0]? = some (some bc) ->
 ∃ wv_16, Stores P 60 ⟨bc, 0, none⟩ (.agg #[.bool b3, .slice b4 b5 b6, .slice b7 b8 b9]) bb wv_16 /\
 ((!ba) = true ->
 ∃ wv_17, Stores P 33 ⟨a1, 0, none⟩ (.agg #[.string ByteArray.empty, .bool false, .slice none 0 0]) wv_16 wv_17 /\
 ∃ wv_18, Stores P 60 ⟨a2, 0, none⟩ (.agg #[.bool false, .slice none 0 0, .slice none 0 0]) wv_17 wv_18 /\
 ∃ r0_3 r1_1 bd be bf, Loads P 33 ⟨a1, 0, none⟩ (.agg #[.string r0_3, .bool r1_1, .slice bd be bf]) wv_18 /\ ∃ r0_4 bg bh bi bj bk bl, Loads P 60 ⟨a2, 0, none⟩ (.agg #[.bool r0_4, .slice bg bh bi, .slice bj bk bl]) wv_18 /\ R (.tuple #[.agg #[.string r0_3, .bool r1_1, .slice bd be bf], .agg #[.bool r0_4, .slice bg bh bi, .slice bj bk bl], .bool false]) wv_18) /\
 ((!ba) = false ->
 ∃ bm, Loads P 9 ((⟨r, 0, none⟩ : Addr).add 0) (.string bm) wv_16 /\ ∃ bn bo bp bq br bs bt, Loads P 60 ⟨bc, 0, none⟩ (.agg #[.bool bn, .slice bo bp bq, .slice br bs bt]) wv_16 /\ Calls P 105 ⟨[.string bm, .agg #[.bool bn, .slice bo bp bq, .slice br bs bt], .int .i64 mode]⟩ wv_16 fun bu bv =>
 ∃ bw bx bz c0 c1 c2 c3 c4 c5 c6 c7 c8 c9, bu = .returned (.tuple #[.agg #[.string bw, .bool bx, .slice bz c0 c1], .agg #[.bool c2, .slice c3 c4 c5, .slice c6 c7 c8], .bool c9]) /\
 ∃ wv_20, Stores P 33 ⟨a1, 0, none⟩ (.agg #[.string bw, .bool bx, .slice bz c0 c1]) bv wv_20 /\
 ∃ wv_21, Stores P 60 ⟨a2, 0, none⟩ (.agg #[.bool c2, .slice c3 c4 c5, .slice c6 c7 c8]) wv_20 wv_21 /\
 ∃ r0_5 r1_2 ca cb cc, Loads P 33 ⟨a1, 0, none⟩ (.agg #[.string r0_5, .bool r1_2, .slice ca cb cc]) wv_21 /\ ∃ r0_6 cd ce cf cg ch ci, Loads P 60 ⟨a2, 0, none⟩ (.agg #[.bool r0_6, .slice cd ce cf, .slice cg ch ci]) wv_21 /\ R (.tuple #[.agg #[.string r0_5, .bool r1_2, .slice ca cb cc], .agg #[.bool r0_6, .slice cd ce cf, .slice cg ch ci], .bool c9]) wv_21)
def impl_TaxOn (net0 : ByteArray) (net1 : Bool) (a0 : Option Addr) (a1 a2 : Nat) (r0 : Bool) (a3 : Option Addr) (a4 a5 : Nat) (r2 mode : Int) (w : World) (R : Value -> World -> Prop) : Prop :=
 ∀ r wv, New w (.cells ⟨[.string net0, .bool net1, .slice a0 a1 a2]⟩ 33 (0, 0)) r wv ->
 ∀ a6 a7, New wv (.cells ⟨[.bool r0, .slice a3 a4 a5, .int .i64 r2]⟩ 36 (0, 0)) a6 a7 ->
 ∀ a8 a9, New a7 (.cells ⟨[.string ByteArray.empty, .bool false, .slice none 0 0]⟩ 33 (0, 0)) a8 a9 ->
 ∀ aa ab, New a9 (.cells ⟨[.bool false, .slice none 0 0, .slice none 0 0]⟩ 60 (0, 0)) aa ab ->
 ∃ ac ae af ag ah, Loads P 33 ⟨r, 0, none⟩ (.agg #[.string ac, .bool ae, .slice af ag ah]) ab /\ Calls P 102 ⟨[.agg #[.string ac, .bool ae, .slice af ag ah]]⟩ ab fun e ai =>
 ∃ aj, e = .returned (.bool aj) /\
 ((!aj) = true ->
 (true = true ->
 ∃ wv_5, Stores P 33 ⟨a8, 0, none⟩ (.agg #[.string ByteArray.empty, .bool false, .slice none 0 0]) ai wv_5 /\
 ∃ wv_6, Stores P 60 ⟨aa, 0, none⟩ (.agg #[.bool false, .slice none 0 0, .slice none 0 0]) wv_5 wv_6 /\
 ∃ r0_1 r1 ak al am, Loads P 33 ⟨a8, 0, none⟩ (.agg #[.string r0_1, .bool r1, .slice ak al am]) wv_6 /\ ∃ r0_2 an ao ap aq ar au, Loads P 60 ⟨aa, 0, none⟩ (.agg #[.bool r0_2, .slice an ao ap, .slice aq ar au]) wv_6 /\ R (.tuple #[.agg #[.string r0_1, .bool r1, .slice ak al am], .agg #[.bool r0_2, .slice an ao ap, .slice aq ar au], .bool false]) wv_6) /\
 (true = false ->
 impl_TaxOn_j0 mode r a6 a8 aa ai R)) /\
 ((!aj) = false ->
 ∃ av aw ax ay az, Loads P 36 ⟨a6, 0, none⟩ (.agg #[.bool av, .slice aw ax ay, .int .i64 az]) ai /\ Calls P 103 ⟨[.agg #[.bool av, .slice aw ax ay, .int .i64 az]]⟩ ai fun b0 b1 =>
 ∃ b2, b0 = .returned (.bool b2) /\
 ((!b2) = true ->
 ∃ wv_23, Stores P 33 ⟨a8, 0, none⟩ (.agg #[.string ByteArray.empty, .bool false, .slice none 0 0]) b1 wv_23 /\
 ∃ wv_24, Stores P 60 ⟨aa, 0, none⟩ (.agg #[.bool false, .slice none 0 0, .slice none 0 0]) wv_23 wv_24 /\
 ∃ r0_7 r1_3 b3 b4 b5, Loads P 33 ⟨a8, 0, none⟩ (.agg #[.string r0_7, .bool r1_3, .slice b3 b4 b5]) wv_24 /\ ∃ r0_8 b6 b7 b8 b9 ba bb, Loads P 60 ⟨aa, 0, none⟩ (.agg #[.bool r0_8, .slice b6 b7 b8, .slice b9 ba bb]) wv_24 /\ R (.tuple #[.agg #[.string r0_7, .bool r1_3, .slice b3 b4 b5], .agg #[.bool r0_8, .slice b6 b7 b8, .slice b9 ba bb], .bool false]) wv_24) /\
 ((!b2) = false ->
 impl_TaxOn_j0 mode r a6 a8 aa b1 R))
theorem impl_TaxOn_ret {a : ByteArray} {a0 : Bool} {a1 : Option Addr} {a2 a3 : Nat} {r0 : Bool} {a4 : Option Addr} {a5 a6 : Nat} {r2 a7 : Int} (h : impl_TaxOn a a0 a1 a2 a3 r0 a4 a5 a6 r2 a7 w R) : Ret P 36 [.agg #[.string a, .bool a0, .slice a1 a2 a3], .agg #[.bool r0, .slice a4 a5 a6, .int .i64 r2], .int .i64 a7] w R := Ret.of_fsem Tryz.func36 rfl (Eq.mp (show _ = fsem P Tryz.f36 (fun k => []) _ R w from by kernel_rfl) h)
def impl_TextPercent_j0 (s : ByteArray) (r : Nat) (W : World) (R : Value -> World -> Prop) : Prop :=
 ∃ a0 : Int, a0 = IntKind.wrap .i64 (((s.size : Nat) : Int) - 1) /\ (0 <= (a0 : Int) /\ (a0 : Int) <= (s.size : Nat)) /\ Calls P 116 ⟨[(.string (s.extract 0 a0.toNat))]⟩ W fun e a1 =>
 ∃ a2 a3 a4 a5 a6 a7, e = .returned (.tuple #[.agg #[.bool a2, .slice a3 a4 a5, .int .i64 a6], .bool a7]) /\
 ∀ a8 a9, New a1 (.cells ⟨[.bool false, .slice none 0 0, .int .i64 0]⟩ 36 (0, 0)) a8 a9 ->
 ∃ wv_4, Stores P 36 ⟨a8, 0, none⟩ (.agg #[.bool a2, .slice a3 a4 a5, .int .i64 a6]) a9 wv_4 /\
 ((!a7) = true ->
 ∃ wv_5, Stores P 36 ⟨r, 0, none⟩ (.agg #[.bool false, .slice none 0 0, .int .i64 0]) wv_4 wv_5 /\
 ∃ r0_1 aa ab ac r2_1, Loads P 36 ⟨r, 0, none⟩ (.agg #[.bool r0_1, .slice aa ab ac, .int .i64 r2_1]) wv_5 /\ R (.tuple #[.agg #[.bool r0_1, .slice aa ab ac, .int .i64 r2_1], .bool false]) wv_5) /\
 ((!a7) = false ->
 ∃ ae af ag ah, Loads P 31 ((⟨a8, 0, none⟩ : Addr).add 0) (.agg #[.bool ae, .slice af ag ah]) wv_4 /\ ∃ ai, Loads P 3 ((⟨a8, 0, none⟩ : Addr).add 2) (.int .i64 ai) wv_4 /\ ∃ aj : Int, aj = IntKind.wrap .i64 (ai + 2) /\ Calls P 117 ⟨[.agg #[.bool ae, .slice af ag ah], .int .i64 aj]⟩ wv_4 fun ak al =>
 ∃ am an ao ap aq, ak = .returned (.agg #[.bool am, .slice an ao ap, .int .i64 aq]) /\
 ∀ ar au, New al (.cells ⟨[.bool false, .slice none 0 0, .int .i64 0]⟩ 36 (0, 0)) ar au ->
 ∃ wv_8, Stores P 36 ⟨ar, 0, none⟩ (.agg #[.bool am, .slice an ao ap, .int .i64 aq]) au wv_8 /\
 ∃ av aw ax ay az, Loads P 36 ⟨ar, 0, none⟩ (.agg #[.bool av, .slice aw ax ay, .int .i64 az]) wv_8 /\ Calls P 38 ⟨[.agg #[.bool av, .slice aw ax ay, .int .i64 az]]⟩ wv_8 fun b0 b1 =>
 ∃ b2, b0 = .returned (.string b2) /\
 ((decide (b2 ≠ s)) = true ->
 ∃ wv_10, Stores P 36 ⟨r, 0, none⟩ (.agg #[.bool false, .slice none 0 0, .int .i64 0]) b1 wv_10 /\
 ∃ r0_2 b3 b4 b5 r2_2, Loads P 36 ⟨r, 0, none⟩ (.agg #[.bool r0_2, .slice b3 b4 b5, .int .i64 r2_2]) wv_10 /\ R (.tuple #[.agg #[.bool r0_2, .slice b3 b4 b5, .int .i64 r2_2], .bool false]) wv_10) /\
 ((decide (b2 ≠ s)) = false ->
 ∃ b6 b7 b8 b9 ba, Loads P 36 ⟨ar, 0, none⟩ (.agg #[.bool b6, .slice b7 b8 b9, .int .i64 ba]) b1 /\ ∃ wv_11, Stores P 36 ⟨r, 0, none⟩ (.agg #[.bool b6, .slice b7 b8 b9, .int .i64 ba]) b1 wv_11 /\
 ∃ r0_3 bb bc bd r2_3, Loads P 36 ⟨r, 0, none⟩ (.agg #[.bool r0_3, .slice bb bc bd, .int .i64 r2_3]) wv_11 /\ R (.tuple #[.agg #[.bool r0_3, .slice bb bc bd, .int .i64 r2_3], .bool true]) wv_11))
def impl_TextPercent (s : ByteArray) (w : World) (R : Value -> World -> Prop) : Prop :=
 ∀ r wv, New w (.cells ⟨[.bool false, .slice none 0 0, .int .i64 0]⟩ 36 (0, 0)) r wv ->
 ((decide (s = (S []))) = true ->
 (true = true ->
 ∃ wv_1, Stores P 36 ⟨r, 0, none⟩ (.agg #[.bool false, .slice none 0 0, .int .i64 0]) wv wv_1 /\
 ∃ r0 a0 a1 a2 r2, Loads P 36 ⟨r, 0, none⟩ (.agg #[.bool r0, .slice a0 a1 a2, .int .i64 r2]) wv_1 /\ R (.tuple #[.agg #[.bool r0, .slice a0 a1 a2, .int .i64 r2], .bool false]) wv_1) /\
 (true = false ->
 impl_TextPercent_j0 s r wv R)) /\
 ((decide (s = (S []))) = false ->
 ∃ a3 : Int, a3 = IntKind.wrap .i64 (((s.size : Nat) : Int) - 1) /\ 0 <= (a3 : Int) /\ ∃ b : UInt8, s[a3.toNat]? = some b /\ ((decide ((((b.toNat : Nat) : Int) : Int) ≠ 37)) = true ->
 ∃ wv_12, Stores P 36 ⟨r, 0, none⟩ (.agg #[.bool false, .slice none 0 0, .int .i64 0]) wv wv_12 /\
 ∃ r0_4 a4 a5 a6 r2_4, Loads P 36 ⟨r, 0, none⟩ (.agg #[.bool r0_4, .slice a4 a5 a6, .int .i64 r2_4]) wv_12 /\ R (.tuple #[.agg #[.bool r0_4, .slice a4 a5 a6, .int .i64 r2_4], .bool false]) wv_12) /\
 ((decide ((((b.toNat : Nat) : Int) : Int) ≠ 37)) = false ->
 impl_TextPercent_j0 s r wv R))
theorem impl_TextPercent_ret {s : ByteArray} (h : impl_TextPercent s w R) : Ret P 37 [.string s] w R := Ret.of_fsem Tryz.func37 rfl (Eq.mp (show _ = fsem P Tryz.f37 (fun k => []) _ R w from by kernel_rfl) h)
def impl_Percent (r0 : Bool) (a0 : Option Addr) (a1 a2 : Nat) (r2 : Int) (w : World) (R : Value -> World -> Prop) : Prop :=
 ∀ r wv, New w (.cells ⟨[.bool r0, .slice a0 a1 a2, .int .i64 r2]⟩ 36 (0, 0)) r wv ->
 ∃ a3 a4 a5 a6 a7, Loads P 36 ⟨r, 0, none⟩ (.agg #[.bool a3, .slice a4 a5 a6, .int .i64 a7]) wv /\ Calls P 103 ⟨[.agg #[.bool a3, .slice a4 a5 a6, .int .i64 a7]]⟩ wv fun e a8 =>
 ∃ t6, e = .returned (.bool t6) /\
 ((!t6) = true ->
 R (.string (S [])) a8) /\
 ((!t6) = false ->
 ∃ a9 aa ab ac ae, (∀ wv_2, Ext a8.drew wv_2 -> Loads P 36 ⟨r, 0, none⟩ (.agg #[.bool a9, .slice aa ab ac, .int .i64 ae]) wv_2) /\ ∀ (ss : List (Option Nat)) (af : World), Fl [.cells ⟨[.bool false, .slice none 0 0, .int .i64 0]⟩ 36 (0, 0)] [none] a8.drew ss af ->
 Calls P 32 ⟨[.int .i64 100]⟩ af fun ag ah =>
 ∃ ai aj ak al, ag = .returned (.agg #[.bool ai, .slice aj ak al]) /\
 Ext af ah /\ ∀ (ss_1 : List (Option Nat)) (am : World), Fl [.cells ⟨[.bool false, .slice none 0 0, .int .i64 0]⟩ 36 (0, 0)] ss ah ss_1 am ->
 Calls P 118 ⟨[.agg #[.bool a9, .slice aa ab ac, .int .i64 ae], .agg #[.bool ai, .slice aj ak al, .int .i64 0]]⟩ am fun an ao =>
 ∃ ap aq ar au av aw, an = .returned (.tuple #[.agg #[.bool ap, .slice aq ar au, .int .i64 av], .bool aw]) /\
 ∀ (ss_2 : List (Option Nat)) (ax : World) (ay : Nat), Fl [.cells ⟨[.bool false, .slice none 0 0, .int .i64 0]⟩ 36 (0, 0)] ss_1 ao ss_2 ax -> ss_2[0]? = some (some ay) ->
 ∃ wv_8, Stores P 36 ⟨ay, 0, none⟩ (.agg #[.bool ap, .slice aq ar au, .int .i64 av]) ax wv_8 /\
 ∃ az b0 b1 b2 b3, Loads P 36 ⟨ay, 0, none⟩ (.agg #[.bool az, .slice b0 b1 b2, .int .i64 b3]) wv_8 /\ Calls P 120 ⟨[.agg #[.bool az, .slice b0 b1 b2, .int .i64 b3]]⟩ wv_8 fun b4 b5 =>
 ∃ b6 b7 b8 b9 ba, b4 = .returned (.agg #[.bool b6, .slice b7 b8 b9, .int .i64 ba]) /\
 Calls P 119 ⟨[.agg #[.bool b6, .slice b7 b8 b9, .int .i64 ba]]⟩ b5 fun bb bc =>
 ∃ bd, bb = .returned (.string bd) /\
 bd.size + (S [37]).size <= 9223372036854775807 /\ ∃ be : ByteArray, be = bd ++ (S [37]) /\ R (.string be) bc)
theorem impl_Percent_ret {r0 : Bool} {a : Option Addr} {a0 a1 : Nat} {r2 : Int} (h : impl_Percent r0 a a0 a1 r2 w R) : Ret P 38 [.agg #[.bool r0, .slice a a0 a1, .int .i64 r2]] w R := Ret.of_fsem Tryz.func38 rfl (Eq.mp (show _ = fsem P Tryz.f38 (fun k => []) _ R w from by kernel_rfl) h)
def impl_RatCmp (r0 : Bool) (a0 : Option Addr) (a1 a2 : Nat) (a3 : Option Addr) (a4 a5 : Nat) (s0 : Bool) (a6 : Option Addr) (a7 a8 : Nat) (a9 : Option Addr) (aa ab : Nat) (w : World) (R : Value -> World -> Prop) : Prop :=
 ∀ r wv, New w (.cells ⟨[.bool r0, .slice a0 a1 a2, .slice a3 a4 a5]⟩ 60 (0, 0)) r wv ->
 ∀ ac ae, New wv (.cells ⟨[.bool s0, .slice a6 a7 a8, .slice a9 aa ab]⟩ 60 (0, 0)) ac ae ->
 ∃ af ag ah ai aj ak al, Loads P 60 ⟨r, 0, none⟩ (.agg #[.bool af, .slice ag ah ai, .slice aj ak al]) ae /\ ∃ am an ao ap aq ar au, Loads P 60 ⟨ac, 0, none⟩ (.agg #[.bool am, .slice an ao ap, .slice aq ar au]) ae /\ Calls P 106 ⟨[.agg #[.bool af, .slice ag ah ai, .slice aj ak al], .agg #[.bool am, .slice an ao ap, .slice aq ar au]]⟩ ae fun e av =>
 ∃ t7, e = .returned (.bool t7) /\
 ((!t7) = true ->
 R (.int .i64 0) av) /\
 ((!t7) = false ->
 ∃ aw ax ay az b0 b1 b2, (∀ wv_3, Ext av.drew wv_3 -> Loads P 60 ⟨r, 0, none⟩ (.agg #[.bool aw, .slice ax ay az, .slice b0 b1 b2]) wv_3) /\ ∃ b3 b4 b5, (∀ wv_4, Ext av.drew wv_4 -> Loads P 29 ((⟨ac, 0, none⟩ : Addr).add 2) (.slice b3 b4 b5) wv_4) /\ Calls P 107 ⟨[.agg #[.bool aw, .slice ax ay az, .slice b0 b1 b2], .slice b3 b4 b5]⟩ av.drew fun b6 b7 =>
 ∃ b8 b9 ba bb, b6 = .returned (.agg #[.bool b8, .slice b9 ba bb]) /\
 Ext av.drew b7 /\ ∃ bc bd be bf bg bh bi, (∀ wv_6, Ext av.drew wv_6 -> Loads P 60 ⟨ac, 0, none⟩ (.agg #[.bool bc, .slice bd be bf, .slice bg bh bi]) wv_6) /\ ∃ bj bk bl, (∀ wv_7, Ext av.drew wv_7 -> Loads P 29 ((⟨r, 0, none⟩ : Addr).add 2) (.slice bj bk bl) wv_7) /\ Calls P 107 ⟨[.agg #[.bool bc, .slice bd be bf, .slice bg bh bi], .slice bj bk bl]⟩ b7 fun bm bn =>
 ∃ bo bp bq br, bm = .returned (.agg #[.bool bo, .slice bp bq br]) /\
 Calls P 90 ⟨[.agg #[.bool b8, .slice b9 ba bb], .agg #[.bool bo, .slice bp bq br]]⟩ bn fun bs bt =>
 ∃ bu, bs = .returned (.int .i64 bu) /\
 R (.int .i64 bu) bt)
theorem impl_RatCmp_ret {r0 : Bool} {a : Option Addr} {a0 a1 : Nat} {a2 : Option Addr} {a3 a4 : Nat} {s0 : Bool} {a5 : Option Addr} {a6 a7 : Nat} {a8 : Option Addr} {a9 b : Nat} (h : impl_RatCmp r0 a a0 a1 a2 a3 a4 s0 a5 a6 a7 a8 a9 b w R) : Ret P 39 [.agg #[.bool r0, .slice a a0 a1, .slice a2 a3 a4], .agg #[.bool s0, .slice a5 a6 a7, .slice a8 a9 b]] w R := Ret.of_fsem Tryz.func39 rfl (Eq.mp (show _ = fsem P Tryz.f39 (fun k => []) _ R w from by kernel_rfl) h)
def laws_small (r0 : Bool) (a0 : Option Addr) (a1 a2 : Nat) (a3 : Option Addr) (a4 a5 : Nat) (w : World) (R : Value -> World -> Prop) : Prop :=
 ∀ r wv, New w (.cells ⟨[.bool r0, .slice a0 a1 a2, .slice a3 a4 a5]⟩ 60 (0, 0)) r wv ->
 ∃ a6 a7 a8 a9 aa ab ac, Loads P 60 ⟨r, 0, none⟩ (.agg #[.bool a6, .slice a7 a8 a9, .slice aa ab ac]) wv /\ Calls P 121 ⟨[.agg #[.bool a6, .slice a7 a8 a9, .slice aa ab ac]]⟩ wv fun e ae =>
 ∃ t4, e = .returned (.bool t4) /\
 (t4 = true ->
 ∃ af ag ah ai aj ak al, Loads P 60 ⟨r, 0, none⟩ (.agg #[.bool af, .slice ag ah ai, .slice aj ak al]) ae /\ Calls P 122 ⟨[.agg #[.bool af, .slice ag ah ai, .slice aj ak al]]⟩ ae fun am an =>
 ∃ ao ap aq ar au av aw, am = .returned (.agg #[.bool ao, .slice ap aq ar, .slice au av aw]) /\
 Calls P 32 ⟨[.int .i64 1]⟩ an fun ax ay =>
 ∃ az b0 b1 b2, ax = .returned (.agg #[.bool az, .slice b0 b1 b2]) /\
 Calls P 31 ⟨[.agg #[.bool az, .slice b0 b1 b2]]⟩ ay fun b3 b4 =>
 ∃ b5 b6 b7 b8 b9 ba bb t9, b3 = .returned (.tuple #[.agg #[.bool b5, .slice b6 b7 b8, .slice b9 ba bb], .bool t9]) /\
 Calls P 29 ⟨[.agg #[.bool b5, .slice b6 b7 b8, .slice b9 ba bb], .bool t9]⟩ b4 fun bc bd =>
 ∃ be bf bg bh bi bj bk, bc = .returned (.agg #[.bool be, .slice bf bg bh, .slice bi bj bk]) /\
 Calls P 39 ⟨[.agg #[.bool ao, .slice ap aq ar, .slice au av aw], .agg #[.bool be, .slice bf bg bh, .slice bi bj bk]]⟩ bd fun bl bm =>
 ∃ bn, bl = .returned (.int .i64 bn) /\
 R (.bool (decide ((bn : Int) < 0))) bm) /\
 (t4 = false ->
 R (.bool false) ae)
theorem laws_small_ret {r0 : Bool} {a : Option Addr} {a0 a1 : Nat} {a2 : Option Addr} {a3 a4 : Nat} (h : laws_small r0 a a0 a1 a2 a3 a4 w R) : Ret P 40 [.agg #[.bool r0, .slice a a0 a1, .slice a2 a3 a4]] w R := Ret.of_fsem Tryz.func40 rfl (Eq.mp (show _ = fsem P Tryz.f40 (fun k => []) _ R w from by kernel_rfl) h)
def impl_DecCmp_j0 (r a0 : Nat) (W : World) (R : Value -> World -> Prop) : Prop :=
 ∃ a1, Loads P 3 ((⟨r, 0, none⟩ : Addr).add 2) (.int .i64 a1) W /\ ∃ a2, Loads P 3 ((⟨a0, 0, none⟩ : Addr).add 2) (.int .i64 a2) W /\ ∃ a3 : Int, a3 = (if a2 > a1 then a2 else a1) /\ Calls P 123 ⟨[.int .i64 a3]⟩ W fun a4 a5 =>
 ∃ (a6 : Value), a4 = .returned a6 /\
 ∃ a7 a8 a9 aa ab, (∀ wv_4, Ext a5.drew wv_4 -> Loads P 36 ⟨r, 0, none⟩ (.agg #[.bool a7, .slice a8 a9 aa, .int .i64 ab]) wv_4) /\ CallW P a6 [.agg #[.bool a7, .slice a8 a9 aa, .int .i64 ab]] a5.drew fun ac ae =>
 ∃ af ag ah ai, ac = .returned (.agg #[.bool af, .slice ag ah ai]) /\
 Ext a5.drew ae /\ ∃ aj ak al am an, (∀ wv_6, Ext a5.drew wv_6 -> Loads P 36 ⟨a0, 0, none⟩ (.agg #[.bool aj, .slice ak al am, .int .i64 an]) wv_6) /\ CallW P a6 [.agg #[.bool aj, .slice ak al am, .int .i64 an]] ae fun ao ap =>
 ∃ aq ar au av, ao = .returned (.agg #[.bool aq, .slice ar au av]) /\
 Calls P 90 ⟨[.agg #[.bool af, .slice ag ah ai], .agg #[.bool aq, .slice ar au av]]⟩ ap fun aw ax =>
 ∃ ay, aw = .returned (.int .i64 ay) /\
 R (.int .i64 ay) ax
def impl_DecCmp (d0 : Bool) (a0 : Option Addr) (a1 a2 : Nat) (d2 : Int) (e0 : Bool) (a3 : Option Addr) (a4 a5 : Nat) (e2 : Int) (w : World) (R : Value -> World -> Prop) : Prop :=
 ∀ r wv, New w (.cells ⟨[.bool d0, .slice a0 a1 a2, .int .i64 d2]⟩ 36 (0, 0)) r wv ->
 ∀ a6 a7, New wv (.cells ⟨[.bool e0, .slice a3 a4 a5, .int .i64 e2]⟩ 36 (0, 0)) a6 a7 ->
 ∃ a8 a9 aa ab ac, Loads P 36 ⟨r, 0, none⟩ (.agg #[.bool a8, .slice a9 aa ab, .int .i64 ac]) a7 /\ Calls P 112 ⟨[.agg #[.bool a8, .slice a9 aa ab, .int .i64 ac]]⟩ a7 fun e ae =>
 ∃ t7, e = .returned (.bool t7) /\
 ((!t7) = true ->
 (true = true ->
 R (.int .i64 0) ae) /\
 (true = false ->
 impl_DecCmp_j0 r a6 ae R)) /\
 ((!t7) = false ->
 ∃ af ag ah ai aj, Loads P 36 ⟨a6, 0, none⟩ (.agg #[.bool af, .slice ag ah ai, .int .i64 aj]) ae /\ Calls P 112 ⟨[.agg #[.bool af, .slice ag ah ai, .int .i64 aj]]⟩ ae fun ak al =>
 ∃ am, ak = .returned (.bool am) /\
 ((!am) = true ->
 R (.int .i64 0) al) /\
 ((!am) = false ->
 impl_DecCmp_j0 r a6 al R))
theorem impl_DecCmp_ret {d0 : Bool} {a : Option Addr} {a0 a1 : Nat} {d2 : Int} {e0 : Bool} {a2 : Option Addr} {a3 a4 : Nat} {e2 : Int} (h : impl_DecCmp d0 a a0 a1 d2 e0 a2 a3 a4 e2 w R) : Ret P 41 [.agg #[.bool d0, .slice a a0 a1, .int .i64 d2], .agg #[.bool e0, .slice a2 a3 a4, .int .i64 e2]] w R := Ret.of_fsem Tryz.func41 rfl (Eq.mp (show _ = fsem P Tryz.f41 (fun k => []) _ R w from by kernel_rfl) h)
def impl_RatSub (r0 : Bool) (a0 : Option Addr) (a1 a2 : Nat) (a3 : Option Addr) (a4 a5 : Nat) (s0 : Bool) (a6 : Option Addr) (a7 a8 : Nat) (a9 : Option Addr) (aa ab : Nat) (w : World) (R : Value -> World -> Prop) : Prop :=
 ∀ r wv, New w (.cells ⟨[.bool r0, .slice a0 a1 a2, .slice a3 a4 a5]⟩ 60 (0, 0)) r wv ->
 ∀ ac ae, New wv (.cells ⟨[.bool s0, .slice a6 a7 a8, .slice a9 aa ab]⟩ 60 (0, 0)) ac ae ->
 ∀ af ag, New ae (.cells ⟨[.bool false, .slice none 0 0, .slice none 0 0]⟩ 60 (0, 0)) af ag ->
 ∃ ah ai aj ak al am an, Loads P 60 ⟨r, 0, none⟩ (.agg #[.bool ah, .slice ai aj ak, .slice al am an]) ag /\ ∃ ao ap aq ar au av aw, Loads P 60 ⟨ac, 0, none⟩ (.agg #[.bool ao, .slice ap aq ar, .slice au av aw]) ag /\ Calls P 106 ⟨[.agg #[.bool ah, .slice ai aj ak, .slice al am an], .agg #[.bool ao, .slice ap aq ar, .slice au av aw]]⟩ ag fun e ax =>
 ∃ t8, e = .returned (.bool t8) /\
 ((!t8) = true ->
 ∃ wv_4, Stores P 60 ⟨af, 0, none⟩ (.agg #[.bool false, .slice none 0 0, .slice none 0 0]) ax wv_4 /\
 ∃ r0_1 ay az b0 b1 b2 b3, Loads P 60 ⟨af, 0, none⟩ (.agg #[.bool r0_1, .slice ay az b0, .slice b1 b2 b3]) wv_4 /\ R (.tuple #[.agg #[.bool r0_1, .slice ay az b0, .slice b1 b2 b3], .bool false]) wv_4) /\
 ((!t8) = false ->
 ∃ b4 b5 b6 b7 b8 b9 ba, (∀ wv_5, Ext ax.drew wv_5 -> Loads P 60 ⟨r, 0, none⟩ (.agg #[.bool b4, .slice b5 b6 b7, .slice b8 b9 ba]) wv_5) /\ ∃ bb bc bd be bf bg bh, (∀ wv_6, Ext ax.drew wv_6 -> Loads P 60 ⟨ac, 0, none⟩ (.agg #[.bool bb, .slice bc bd be, .slice bf bg bh]) wv_6) /\ Calls P 130 ⟨[.agg #[.bool bb, .slice bc bd be, .slice bf bg bh]]⟩ ax.drew fun bi bj =>
 ∃ bk bl bm bn bo bp bq, bi = .returned (.agg #[.bool bk, .slice bl bm bn, .slice bo bp bq]) /\
 Ext ax.drew bj /\ Calls P 30 ⟨[.agg #[.bool b4, .slice b5 b6 b7, .slice b8 b9 ba], .agg #[.bool bk, .slice bl bm bn, .slice bo bp bq]]⟩ bj fun br bs =>
 ∃ bt bu bv bw bx bz c0 c1, br = .returned (.tuple #[.agg #[.bool bt, .slice bu bv bw, .slice bx bz c0], .bool c1]) /\
 ∃ wv_9, Stores P 60 ⟨af, 0, none⟩ (.agg #[.bool bt, .slice bu bv bw, .slice bx bz c0]) bs wv_9 /\
 ∃ r0_2 c2 c3 c4 c5 c6 c7, Loads P 60 ⟨af, 0, none⟩ (.agg #[.bool r0_2, .slice c2 c3 c4, .slice c5 c6 c7]) wv_9 /\ R (.tuple #[.agg #[.bool r0_2, .slice c2 c3 c4, .slice c5 c6 c7], .bool c1]) wv_9)
theorem impl_RatSub_ret {r0 : Bool} {a : Option Addr} {a0 a1 : Nat} {a2 : Option Addr} {a3 a4 : Nat} {s0 : Bool} {a5 : Option Addr} {a6 a7 : Nat} {a8 : Option Addr} {a9 b : Nat} (h : impl_RatSub r0 a a0 a1 a2 a3 a4 s0 a5 a6 a7 a8 a9 b w R) : Ret P 45 [.agg #[.bool r0, .slice a a0 a1, .slice a2 a3 a4], .agg #[.bool s0, .slice a5 a6 a7, .slice a8 a9 b]] w R := Ret.of_fsem Tryz.func45 rfl (Eq.mp (show _ = fsem P Tryz.f45 (fun k => []) _ R w from by kernel_rfl) h)
def impl_RatSign (r0 : Bool) (a0 : Option Addr) (a1 a2 : Nat) (a3 : Option Addr) (a4 a5 : Nat) (w : World) (R : Value -> World -> Prop) : Prop :=
 ∀ r wv, New w (.cells ⟨[.bool r0, .slice a0 a1 a2, .slice a3 a4 a5]⟩ 60 (0, 0)) r wv ->
 ∃ a6 a7 a8 a9 aa ab ac, Loads P 60 ⟨r, 0, none⟩ (.agg #[.bool a6, .slice a7 a8 a9, .slice aa ab ac]) wv /\ Calls P 132 ⟨[.agg #[.bool a6, .slice a7 a8 a9, .slice aa ab ac]]⟩ wv fun e ae =>
 ∃ t4, e = .returned (.bool t4) /\
 ((!t4) = true ->
 R (.int .i64 0) ae) /\
 ((!t4) = false ->
 ∃ af ag ah ai, Loads P 31 ((⟨r, 0, none⟩ : Addr).add 0) (.agg #[.bool af, .slice ag ah ai]) ae /\ Calls P 97 ⟨[.agg #[.bool af, .slice ag ah ai]]⟩ ae fun aj ak =>
 ∃ t8, aj = .returned (.int .i64 t8) /\
 R (.int .i64 t8) ak)
theorem impl_RatSign_ret {r0 : Bool} {a : Option Addr} {a0 a1 : Nat} {a2 : Option Addr} {a3 a4 : Nat} (h : impl_RatSign r0 a a0 a1 a2 a3 a4 w R) : Ret P 47 [.agg #[.bool r0, .slice a a0 a1, .slice a2 a3 a4]] w R := Ret.of_fsem Tryz.func47 rfl (Eq.mp (show _ = fsem P Tryz.f47 (fun k => []) _ R w from by kernel_rfl) h)
end Go.Proofs.YtbgokfhcgcoipaaGreatDoor
namespace Go.Proofs.YtbgokfhcgcoipaaGreatDoor
variable {w : World} {R : Value -> World -> Prop}
open Go Go.Proofs.YtbgokfhcgcoipaaGreatDoor.Sx
set_option maxRecDepth 100000
def impl_CutAt_j0 (a0 : World) (a1 : Option Addr -> Nat -> Nat -> Int -> Int -> World -> Prop) (mu : Option Addr -> Nat -> Nat -> Int -> Int -> World -> Nat) (a2 : Option Addr) (a3 a4 : Nat) (fromv i : Int) (a5 : Option Addr) (a6 a7 : Nat) (fromv_1 : Int) (W : World) (R : Value -> World -> Prop) : Prop :=
 ∃ a8 : Int, a8 = IntKind.wrap .i64 (i + 1) /\ a1 a5 a6 a7 fromv_1 a8 W /\ mu a5 a6 a7 fromv_1 a8 W < mu a2 a3 a4 fromv i a0
def impl_CutAt (s byv : ByteArray) (w : World) (R : Value -> World -> Prop) : Prop :=
 ∀ r wv, New w (.cells ⟨[]⟩ 9 (0, 0)) r wv ->
 ∃ (a0 : Option Addr -> Nat -> Nat -> Int -> Int -> World -> Prop) (mu : Option Addr -> Nat -> Nat -> Int -> Int -> World -> Nat), a0 (some ⟨r, 0, none⟩) 0 0 0 0 wv /\
 ∀ (a1 : Fr) (a2 : World) (a3 : Option Addr) (a4 a5 : Nat) (fromv i : Int), a0 a3 a4 a5 fromv i a2 ->
 ((decide ((i : Int) < ((s.size : Nat) : Int))) = true ->
 0 <= (i : Int) /\ ∃ b : UInt8, s[i.toNat]? = some b /\ Calls P 160 ⟨[.string byv, (.int .u8 ((b.toNat : Nat) : Int))]⟩ a2 fun e a6 =>
 ∃ a7, e = .returned (.int .i64 a7) /\
 ((decide ((0 : Int) <= a7)) = true ->
 (0 <= (i : Int) /\ (i : Int) <= (s.size : Nat)) /\ (0 <= (fromv : Int) /\ (fromv : Int) <= (i.toNat : Nat)) /\ ∀ a8 a9, New a6 (.cells ⟨[(.string (s.extract fromv.toNat i.toNat))]⟩ 9 (0, 0)) a8 a9 ->
 ∃ aa ab ac ae, Appends P [98, 98] [.slice a3 a4 a5, (.slice (some ⟨a8, 0, none⟩) 1 1)] (.slice aa ab ac) a9 ae /\
 ∃ af : Int, af = IntKind.wrap .i64 (i + 1) /\ impl_CutAt_j0 a2 a0 mu a3 a4 a5 fromv i aa ab ac af ae R) /\
 ((decide ((0 : Int) <= a7)) = false ->
 impl_CutAt_j0 a2 a0 mu a3 a4 a5 fromv i a3 a4 a5 fromv a6 R)) /\
 ((decide ((i : Int) < ((s.size : Nat) : Int))) = false ->
 (0 <= (fromv : Int) /\ (fromv : Int) <= (s.size : Nat)) /\ ∀ ag ah, New a2 (.cells ⟨[(.string (s.extract fromv.toNat s.size))]⟩ 9 (0, 0)) ag ah ->
 ∃ ai aj ak al, Appends P [98, 98] [.slice a3 a4 a5, (.slice (some ⟨ag, 0, none⟩) 1 1)] (.slice ai aj ak) ah al /\
 R (.slice ai aj ak) al)
theorem impl_CutAt_ret {s a : ByteArray} (h : impl_CutAt s a w R) : Ret P 75 [.string s, .string a] w R := Ret.of_fsem Tryz.func75 rfl (Eq.mp (show _ = fsem P Tryz.f75 (fun k => cond (Nat.beq k 5) [(5, .one .slice), (6, .one (.int .i64)), (7, .one (.int .i64))] ([])) _ R w from by kernel_rfl) h)
def spec_l01New_j0 (a0 : Option Addr) (a1 : Nat) (wv : World) (a2 : Int -> Int -> World -> Prop) (mu : Int -> Int -> World -> Nat) (h i : Int) (W : World) (R : Value -> World -> Prop) : Prop :=
 ∃ a3 : Int, a3 = IntKind.wrap .i64 (h * 41) /\ (0 <= (i : Int) /\ (i : Int) < (a1 : Nat)) /\ ptrS a0 fun ad => ∃ a4, Loads P 5 (ad.add (i.toNat * 1)) (.int .u8 a4) W /\ ∃ a5 : Int, a5 = IntKind.wrap .i64 a4 /\ ∃ a6 : Int, a6 = IntKind.wrap .i64 (a3 + a5) /\ ∃ a7 : Int, a7 = IntKind.wrap .i64 (a6 + 7) /\ ∃ a8 : Int, a8 = IntKind.wrap .i64 (BitVec.ofInt (IntKind.bits .i64) a7 &&& BitVec.ofInt (IntKind.bits .i64) 1073741823).toNat /\ ∃ a9 : Int, a9 = IntKind.wrap .i64 (i + 1) /\ a2 a8 a9 W /\ mu a8 a9 W < mu h i wv
def spec_l01New (a0 : Option Addr) (a1 a2 : Nat) (w : World) (R : Value -> World -> Prop) : Prop :=
 ∃ t7 : Int, t7 = IntKind.wrap .i64 (1616 + ((a1 : Nat) : Int)) /\ ∃ (a3 : Int -> Int -> World -> Prop) (mu : Int -> Int -> World -> Nat), a3 t7 0 w /\
 ∀ (a4 : Fr) (wv : World) (h i : Int), a3 h i wv ->
 ((decide ((i : Int) < ((a1 : Nat) : Int))) = true ->
 ((decide ((i : Int) < 4000)) = true ->
 spec_l01New_j0 a0 a1 wv a3 mu h i wv R) /\
 ((decide ((i : Int) < 4000)) = false ->
 ∀ r a5, New wv (.cells ⟨[.slice a0 a1 a2, .int .i64 0, .int .i64 h]⟩ 126 (0, 0)) r a5 ->
 R (.pointer (some ⟨r, 0, none⟩)) a5)) /\
 ((decide ((i : Int) < ((a1 : Nat) : Int))) = false ->
 (false = true ->
 spec_l01New_j0 a0 a1 wv a3 mu h i wv R) /\
 (false = false ->
 ∀ a6 a7, New wv (.cells ⟨[.slice a0 a1 a2, .int .i64 0, .int .i64 h]⟩ 126 (0, 0)) a6 a7 ->
 R (.pointer (some ⟨a6, 0, none⟩)) a7))
theorem spec_l01New_ret {a : Option Addr} {a0 a1 : Nat} (h : spec_l01New a a0 a1 w R) : Ret P 81 [.slice a a0 a1] w R := Ret.of_fsem Tryz.func81 rfl (Eq.mp (show _ = fsem P Tryz.f81 (fun k => cond (Nat.beq k 4) [(3, .one (.int .i64)), (4, .one (.int .i64))] ([])) _ R w from by kernel_rfl) h)
def spec_IntOf (n : Int) (w : World) (R : Value -> World -> Prop) : Prop :=
 ∀ r wv, New w (.cells ⟨[.bool false, .slice none 0 0]⟩ 31 (0, 0)) r wv ->
 ((decide ((n : Int) = (-9223372036854775808))) = true ->
 ∀ a0 a1, New wv (.cells ⟨[.int .i64 854775808, .int .i64 223372036, .int .i64 9]⟩ 3 (0, 0)) a0 a1 ->
 Calls P 164 ⟨[.bool true, (.slice (some ⟨a0, 0, none⟩) 3 3)]⟩ a1 fun e a2 =>
 ∃ a3 a4 a5 a6, e = .returned (.agg #[.bool a3, .slice a4 a5 a6]) /\
 ∃ wv_3, Stores P 31 ⟨r, 0, none⟩ (.agg #[.bool a3, .slice a4 a5 a6]) a2 wv_3 /\
 ∃ r0 a7 a8 a9, Loads P 31 ⟨r, 0, none⟩ (.agg #[.bool r0, .slice a7 a8 a9]) wv_3 /\ R (.agg #[.bool r0, .slice a7 a8 a9]) wv_3) /\
 ((decide ((n : Int) = (-9223372036854775808))) = false ->
 ((decide ((n : Int) < 0)) = true ->
 ∃ aa : Int, aa = IntKind.wrap .i64 (0 - n) /\ Calls P 165 ⟨[.int .i64 aa]⟩ wv fun ab ac =>
 ∃ ae af ag, ab = .returned (.slice ae af ag) /\
 Calls P 164 ⟨[.bool true, .slice ae af ag]⟩ ac fun ah ai =>
 ∃ aj ak al am, ah = .returned (.agg #[.bool aj, .slice ak al am]) /\
 ∃ wv_6, Stores P 31 ⟨r, 0, none⟩ (.agg #[.bool aj, .slice ak al am]) ai wv_6 /\
 ∃ r0_1 an ao ap, Loads P 31 ⟨r, 0, none⟩ (.agg #[.bool r0_1, .slice an ao ap]) wv_6 /\ R (.agg #[.bool r0_1, .slice an ao ap]) wv_6) /\
 ((decide ((n : Int) < 0)) = false ->
 Calls P 165 ⟨[.int .i64 n]⟩ wv fun aq ar =>
 ∃ au av aw, aq = .returned (.slice au av aw) /\
 Calls P 164 ⟨[.bool false, .slice au av aw]⟩ ar fun ax ay =>
 ∃ az b0 b1 b2, ax = .returned (.agg #[.bool az, .slice b0 b1 b2]) /\
 ∃ wv_9, Stores P 31 ⟨r, 0, none⟩ (.agg #[.bool az, .slice b0 b1 b2]) ay wv_9 /\
 ∃ r0_2 b3 b4 b5, Loads P 31 ⟨r, 0, none⟩ (.agg #[.bool r0_2, .slice b3 b4 b5]) wv_9 /\ R (.agg #[.bool r0_2, .slice b3 b4 b5]) wv_9))
theorem spec_IntOf_ret {n : Int} (h : spec_IntOf n w R) : Ret P 82 [.int .i64 n] w R := Ret.of_fsem Tryz.func82 rfl (Eq.mp (show _ = fsem P Tryz.f82 (fun k => []) _ R w from by kernel_rfl) h)
def spec_l01Below (c : Option Addr) (n : Int) (w : World) (R : Value -> World -> Prop) : Prop :=
 ((decide ((n : Int) <= 0)) = true ->
 R (.int .i64 0) w) /\
 ((decide ((n : Int) <= 0)) = false ->
 ((decide ((n : Int) <= 256)) = true ->
 Calls P 166 ⟨[(.pointer c)]⟩ w fun e wv =>
 ∃ a0, e = .returned (.int .i64 a0) /\
 (n : Int) ≠ 0 /\ ∃ a1 : Int, a1 = Int.tmod a0 n /\ R (.int .i64 a1) wv) /\
 ((decide ((n : Int) <= 256)) = false ->
 Calls P 166 ⟨[(.pointer c)]⟩ w fun a2 a3 =>
 ∃ a4, a2 = .returned (.int .i64 a4) /\
 Calls P 166 ⟨[(.pointer c)]⟩ a3 fun a5 a6 =>
 ∃ a7, a5 = .returned (.int .i64 a7) /\
 Calls P 166 ⟨[(.pointer c)]⟩ a6 fun a8 a9 =>
 ∃ aa, a8 = .returned (.int .i64 aa) /\
 Calls P 166 ⟨[(.pointer c)]⟩ a9 fun ab ac =>
 ∃ ae, ab = .returned (.int .i64 ae) /\
 ∃ af : Int, af = IntKind.wrap .i64 (a4 * 16777216) /\ ∃ ag : Int, ag = IntKind.wrap .i64 (a7 * 65536) /\ ∃ ah : Int, ah = IntKind.wrap .i64 (af + ag) /\ ∃ ai : Int, ai = IntKind.wrap .i64 (aa * 256) /\ ∃ aj : Int, aj = IntKind.wrap .i64 (ah + ai) /\ ∃ ak : Int, ak = IntKind.wrap .i64 (aj + ae) /\ (n : Int) ≠ 0 /\ ∃ al : Int, al = Int.tmod ak n /\ R (.int .i64 al) ac))
theorem spec_l01Below_ret {c : Option Addr} {n : Int} (h : spec_l01Below c n w R) : Ret P 83 [.pointer c, .int .i64 n] w R := Ret.of_fsem Tryz.func83 rfl (Eq.mp (show _ = fsem P Tryz.f83 (fun k => []) _ R w from by kernel_rfl) h)
def spec_l13Rate (c : Option Addr) (w : World) (R : Value -> World -> Prop) : Prop :=
 ∀ r wv, New w (.cells ⟨[.bool false, .slice none 0 0, .int .i64 0]⟩ 36 (0, 0)) r wv ->
 ∀ a0 a1, New wv (.cells ⟨[.int .i64 0, .int .i64 1, .int .i64 25, .int .i64 77, .int .i64 81, .int .i64 190, .int .i64 200, .int .i64 1000]⟩ 3 (0, 0)) a0 a1 ->
 Calls P 167 ⟨[(.pointer c), (.slice (some ⟨a0, 0, none⟩) 8 8)]⟩ a1 fun e a2 =>
 ∃ t5, e = .returned (.int .i64 t5) /\
 Calls P 82 ⟨[.int .i64 t5]⟩ a2 fun a3 a4 =>
 ∃ a5 a6 a7 a8, a3 = .returned (.agg #[.bool a5, .slice a6 a7 a8]) /\
 ∀ a9 aa, New a4 (.cells ⟨[.int .i64 3, .int .i64 3, .int .i64 4]⟩ 3 (0, 0)) a9 aa ->
 Calls P 167 ⟨[(.pointer c), (.slice (some ⟨a9, 0, none⟩) 3 3)]⟩ aa fun ab ac =>
 ∃ t9, ab = .returned (.int .i64 t9) /\
 ∃ wv_6, Stores P 36 ⟨r, 0, none⟩ (.agg #[.bool a5, .slice a6 a7 a8, .int .i64 t9]) ac wv_6 /\
 ∃ r0 ae af ag r2, Loads P 36 ⟨r, 0, none⟩ (.agg #[.bool r0, .slice ae af ag, .int .i64 r2]) wv_6 /\ R (.agg #[.bool r0, .slice ae af ag, .int .i64 r2]) wv_6
theorem spec_l13Rate_ret {c : Option Addr} (h : spec_l13Rate c w R) : Ret P 84 [.pointer c] w R := Ret.of_fsem Tryz.func84 rfl (Eq.mp (show _ = fsem P Tryz.f84 (fun k => []) _ R w from by kernel_rfl) h)
def impl_moneyOf (cur : ByteArray) (units0 : Bool) (a0 : Option Addr) (a1 a2 : Nat) (w : World) (R : Value -> World -> Prop) : Prop :=
 ∀ r wv, New w (.cells ⟨[.bool units0, .slice a0 a1 a2]⟩ 31 (0, 0)) r wv ->
 ∀ a3 a4, New wv (.cells ⟨[.string ByteArray.empty, .bool false, .slice none 0 0]⟩ 33 (0, 0)) a3 a4 ->
 ∃ a5 a6 a7 a8, Loads P 31 ⟨r, 0, none⟩ (.agg #[.bool a5, .slice a6 a7 a8]) a4 /\ ∀ a9 aa, New a4 (.cells ⟨[.string ByteArray.empty, .bool false, .slice none 0 0]⟩ 33 (0, 0)) a9 aa ->
 ∃ wv_3, Stores P 33 ⟨a9, 0, none⟩ (.agg #[.string cur, .bool a5, .slice a6 a7 a8]) aa wv_3 /\
 ∃ ab ac ae af ag, Loads P 33 ⟨a9, 0, none⟩ (.agg #[.string ab, .bool ac, .slice ae af ag]) wv_3 /\ Calls P 102 ⟨[.agg #[.string ab, .bool ac, .slice ae af ag]]⟩ wv_3 fun e ah =>
 ∃ ai, e = .returned (.bool ai) /\
 (ai = true ->
 ∃ aj ak al am an, Loads P 33 ⟨a9, 0, none⟩ (.agg #[.string aj, .bool ak, .slice al am an]) ah /\ ∃ wv_5, Stores P 33 ⟨a3, 0, none⟩ (.agg #[.string aj, .bool ak, .slice al am an]) ah wv_5 /\
 ∃ r0 r1 ao ap aq, Loads P 33 ⟨a3, 0, none⟩ (.agg #[.string r0, .bool r1, .slice ao ap aq]) wv_5 /\ R (.tuple #[.agg #[.string r0, .bool r1, .slice ao ap aq], .bool true]) wv_5) /\
 (ai = false ->
 ∃ wv_6, Stores P 33 ⟨a3, 0, none⟩ (.agg #[.string ByteArray.empty, .bool false, .slice none 0 0]) ah wv_6 /\
 ∃ r0_1 r1_1 ar au av, Loads P 33 ⟨a3, 0, none⟩ (.agg #[.string r0_1, .bool r1_1, .slice ar au av]) wv_6 /\ R (.tuple #[.agg #[.string r0_1, .bool r1_1, .slice ar au av], .bool false]) wv_6)
theorem impl_moneyOf_ret {a : ByteArray} {a0 : Bool} {a1 : Option Addr} {a2 a3 : Nat} (h : impl_moneyOf a a0 a1 a2 a3 w R) : Ret P 85 [.string a, .agg #[.bool a0, .slice a1 a2 a3]] w R := Ret.of_fsem Tryz.func85 rfl (Eq.mp (show _ = fsem P Tryz.f85 (fun k => []) _ R w from by kernel_rfl) h)
def impl_alike (m0 : ByteArray) (m1 : Bool) (a0 : Option Addr) (a1 a2 : Nat) (n0 : ByteArray) (n1 : Bool) (a3 : Option Addr) (a4 a5 : Nat) (w : World) (R : Value -> World -> Prop) : Prop :=
 ∀ r wv, New w (.cells ⟨[.string m0, .bool m1, .slice a0 a1 a2]⟩ 33 (0, 0)) r wv ->
 ∀ a6 a7, New wv (.cells ⟨[.string n0, .bool n1, .slice a3 a4 a5]⟩ 33 (0, 0)) a6 a7 ->
 ∃ a8 a9 aa ab ac, Loads P 33 ⟨r, 0, none⟩ (.agg #[.string a8, .bool a9, .slice aa ab ac]) a7 /\ Calls P 102 ⟨[.agg #[.string a8, .bool a9, .slice aa ab ac]]⟩ a7 fun e ae =>
 ∃ t6, e = .returned (.bool t6) /\
 (t6 = true ->
 ∃ af ag ah ai aj, Loads P 33 ⟨a6, 0, none⟩ (.agg #[.string af, .bool ag, .slice ah ai aj]) ae /\ Calls P 102 ⟨[.agg #[.string af, .bool ag, .slice ah ai aj]]⟩ ae fun ak al =>
 ∃ t9, ak = .returned (.bool t9) /\
 (t9 = true ->
 ∃ am, Loads P 9 ((⟨r, 0, none⟩ : Addr).add 0) (.string am) al /\ ∃ an, Loads P 9 ((⟨a6, 0, none⟩ : Addr).add 0) (.string an) al /\ R (.bool (decide (am = an))) al) /\
 (t9 = false ->
 R (.bool false) al)) /\
 (t6 = false ->
 (false = true ->
 ∃ ao, Loads P 9 ((⟨r, 0, none⟩ : Addr).add 0) (.string ao) ae /\ ∃ ap, Loads P 9 ((⟨a6, 0, none⟩ : Addr).add 0) (.string ap) ae /\ R (.bool (decide (ao = ap))) ae) /\
 (false = false ->
 R (.bool false) ae))
theorem impl_alike_ret {m0 : ByteArray} {m1 : Bool} {a : Option Addr} {a0 a1 : Nat} {n0 : ByteArray} {n1 : Bool} {a2 : Option Addr} {a3 a4 : Nat} (h : impl_alike m0 m1 a a0 a1 n0 n1 a2 a3 a4 w R) : Ret P 86 [.agg #[.string m0, .bool m1, .slice a a0 a1], .agg #[.string n0, .bool n1, .slice a2 a3 a4]] w R := Ret.of_fsem Tryz.func86 rfl (Eq.mp (show _ = fsem P Tryz.f86 (fun k => []) _ R w from by kernel_rfl) h)
def impl_intCmp (x0 : Bool) (a0 : Option Addr) (a1 a2 : Nat) (y0 : Bool) (a3 : Option Addr) (a4 a5 : Nat) (w : World) (R : Value -> World -> Prop) : Prop :=
 ∀ r wv, New w (.cells ⟨[.bool x0, .slice a0 a1 a2]⟩ 31 (0, 0)) r wv ->
 ∀ a6 a7, New wv (.cells ⟨[.bool y0, .slice a3 a4 a5]⟩ 31 (0, 0)) a6 a7 ->
 ∃ a8 a9 aa ab, (∀ wv_2, Ext a7.drew wv_2 -> Loads P 31 ⟨r, 0, none⟩ (.agg #[.bool a8, .slice a9 aa ab]) wv_2) /\ ∃ ac ae af ag, (∀ wv_3, Ext a7.drew wv_3 -> Loads P 31 ⟨a6, 0, none⟩ (.agg #[.bool ac, .slice ae af ag]) wv_3) /\ Calls P 148 ⟨[.agg #[.bool ac, .slice ae af ag]]⟩ a7.drew fun e ah =>
 ∃ ai aj ak al, e = .returned (.agg #[.bool ai, .slice aj ak al]) /\
 Ext a7.drew ah /\ Calls P 94 ⟨[.agg #[.bool a8, .slice a9 aa ab], .agg #[.bool ai, .slice aj ak al]]⟩ ah fun am an =>
 ∃ ao ap aq ar, am = .returned (.agg #[.bool ao, .slice ap aq ar]) /\
 Calls P 97 ⟨[.agg #[.bool ao, .slice ap aq ar]]⟩ an fun au av =>
 ∃ t9, au = .returned (.int .i64 t9) /\
 R (.int .i64 t9) av
theorem impl_intCmp_ret {x0 : Bool} {a : Option Addr} {a0 a1 : Nat} {y0 : Bool} {a2 : Option Addr} {a3 a4 : Nat} (h : impl_intCmp x0 a a0 a1 y0 a2 a3 a4 w R) : Ret P 90 [.agg #[.bool x0, .slice a a0 a1], .agg #[.bool y0, .slice a2 a3 a4]] w R := Ret.of_fsem Tryz.func90 rfl (Eq.mp (show _ = fsem P Tryz.f90 (fun k => []) _ R w from by kernel_rfl) h)
def impl_MoneySub (m0 : ByteArray) (m1 : Bool) (a0 : Option Addr) (a1 a2 : Nat) (n0 : ByteArray) (n1 : Bool) (a3 : Option Addr) (a4 a5 : Nat) (w : World) (R : Value -> World -> Prop) : Prop :=
 ∀ r wv, New w (.cells ⟨[.string m0, .bool m1, .slice a0 a1 a2]⟩ 33 (0, 0)) r wv ->
 ∀ a6 a7, New wv (.cells ⟨[.string n0, .bool n1, .slice a3 a4 a5]⟩ 33 (0, 0)) a6 a7 ->
 ∀ a8 a9, New a7 (.cells ⟨[.string ByteArray.empty, .bool false, .slice none 0 0]⟩ 33 (0, 0)) a8 a9 ->
 ∃ aa ab ac ae af, Loads P 33 ⟨r, 0, none⟩ (.agg #[.string aa, .bool ab, .slice ac ae af]) a9 /\ ∃ ag ah ai aj ak, Loads P 33 ⟨a6, 0, none⟩ (.agg #[.string ag, .bool ah, .slice ai aj ak]) a9 /\ Calls P 86 ⟨[.agg #[.string aa, .bool ab, .slice ac ae af], .agg #[.string ag, .bool ah, .slice ai aj ak]]⟩ a9 fun e al =>
 ∃ t8, e = .returned (.bool t8) /\
 ((!t8) = true ->
 ∃ wv_4, Stores P 33 ⟨a8, 0, none⟩ (.agg #[.string ByteArray.empty, .bool false, .slice none 0 0]) al wv_4 /\
 ∃ r0 r1 am an ao, Loads P 33 ⟨a8, 0, none⟩ (.agg #[.string r0, .bool r1, .slice am an ao]) wv_4 /\ R (.tuple #[.agg #[.string r0, .bool r1, .slice am an ao], .bool false]) wv_4) /\
 ((!t8) = false ->
 ∃ ap, (∀ wv_5, Ext al.drew wv_5 -> Loads P 9 ((⟨r, 0, none⟩ : Addr).add 0) (.string ap) wv_5) /\ ∃ aq ar au av, (∀ wv_6, Ext al.drew wv_6 -> Loads P 31 ((⟨r, 0, none⟩ : Addr).add 1) (.agg #[.bool aq, .slice ar au av]) wv_6) /\ ∃ aw ax ay az, (∀ wv_7, Ext al.drew wv_7 -> Loads P 31 ((⟨a6, 0, none⟩ : Addr).add 1) (.agg #[.bool aw, .slice ax ay az]) wv_7) /\ Calls P 148 ⟨[.agg #[.bool aw, .slice ax ay az]]⟩ al.drew fun b0 b1 =>
 ∃ b2 b3 b4 b5, b0 = .returned (.agg #[.bool b2, .slice b3 b4 b5]) /\
 Ext al.drew b1 /\ Calls P 94 ⟨[.agg #[.bool aq, .slice ar au av], .agg #[.bool b2, .slice b3 b4 b5]]⟩ b1 fun b6 b7 =>
 ∃ b8 b9 ba bb, b6 = .returned (.agg #[.bool b8, .slice b9 ba bb]) /\
 Ext b1 b7 /\ Calls P 85 ⟨[.string ap, .agg #[.bool b8, .slice b9 ba bb]]⟩ b7 fun bc bd =>
 ∃ be bf bg bh bi bj, bc = .returned (.tuple #[.agg #[.string be, .bool bf, .slice bg bh bi], .bool bj]) /\
 ∃ wv_11, Stores P 33 ⟨a8, 0, none⟩ (.agg #[.string be, .bool bf, .slice bg bh bi]) bd wv_11 /\
 ∃ r0_1 r1_1 bk bl bm, Loads P 33 ⟨a8, 0, none⟩ (.agg #[.string r0_1, .bool r1_1, .slice bk bl bm]) wv_11 /\ R (.tuple #[.agg #[.string r0_1, .bool r1_1, .slice bk bl bm], .bool bj]) wv_11)
theorem impl_MoneySub_ret {m0 : ByteArray} {m1 : Bool} {a : Option Addr} {a0 a1 : Nat} {n0 : ByteArray} {n1 : Bool} {a2 : Option Addr} {a3 a4 : Nat} (h : impl_MoneySub m0 m1 a a0 a1 n0 n1 a2 a3 a4 w R) : Ret P 91 [.agg #[.string m0, .bool m1, .slice a a0 a1], .agg #[.string n0, .bool n1, .slice a2 a3 a4]] w R := Ret.of_fsem Tryz.func91 rfl (Eq.mp (show _ = fsem P Tryz.f91 (fun k => []) _ R w from by kernel_rfl) h)
def impl_Join (a0 : Option Addr) (a1 a2 : Nat) (byv : ByteArray) (w : World) (R : Value -> World -> Prop) : Prop :=
 Calls P 168 ⟨[.slice a0 a1 a2, .string byv]⟩ w fun e wv =>
 ∃ t7, e = .returned (.string t7) /\
 R (.string t7) wv
theorem impl_Join_ret {a : Option Addr} {a0 a1 : Nat} {a2 : ByteArray} (h : impl_Join a a0 a1 a2 w R) : Ret P 92 [.slice a a0 a1, .string a2] w R := Ret.of_fsem Tryz.func92 rfl (Eq.mp (show _ = fsem P Tryz.f92 (fun k => []) _ R w from by kernel_rfl) h)
def impl_intAdd_j0 (r a0 a1 : Nat) (W : World) (R : Value -> World -> Prop) : Prop :=
 ∃ a2, (∀ wv_12, Ext W.drew wv_12 -> Loads P 4 ((⟨r, 0, none⟩ : Addr).add 0) (.bool a2) wv_12) /\ ∃ a3 a4 a5, (∀ wv_13, Ext W.drew wv_13 -> Loads P 29 ((⟨r, 0, none⟩ : Addr).add 1) (.slice a3 a4 a5) wv_13) /\ ∃ a6 a7 a8, (∀ wv_14, Ext W.drew wv_14 -> Loads P 29 ((⟨a0, 0, none⟩ : Addr).add 1) (.slice a6 a7 a8) wv_14) /\ Calls P 129 ⟨[.slice a3 a4 a5, .slice a6 a7 a8]⟩ W.drew fun a9 aa =>
 ∃ ab ac ae, a9 = .returned (.slice ab ac ae) /\
 Ext W.drew aa /\ Calls P 170 ⟨[.bool a2, .slice ab ac ae]⟩ aa fun af ag =>
 ∃ ah ai aj ak, af = .returned (.agg #[.bool ah, .slice ai aj ak]) /\
 ∃ wv_17, Stores P 31 ⟨a1, 0, none⟩ (.agg #[.bool ah, .slice ai aj ak]) ag wv_17 /\
 ∃ r0_1 al am an, Loads P 31 ⟨a1, 0, none⟩ (.agg #[.bool r0_1, .slice al am an]) wv_17 /\ R (.agg #[.bool r0_1, .slice al am an]) wv_17
def impl_intAdd (x0 : Bool) (a0 : Option Addr) (a1 a2 : Nat) (y0 : Bool) (a3 : Option Addr) (a4 a5 : Nat) (w : World) (R : Value -> World -> Prop) : Prop :=
 ∀ r wv, New w (.cells ⟨[.bool x0, .slice a0 a1 a2]⟩ 31 (0, 0)) r wv ->
 ∀ a6 a7, New wv (.cells ⟨[.bool y0, .slice a3 a4 a5]⟩ 31 (0, 0)) a6 a7 ->
 ∀ a8 a9, New a7 (.cells ⟨[.bool false, .slice none 0 0]⟩ 31 (0, 0)) a8 a9 ->
 ∃ t6, Loads P 4 ((⟨r, 0, none⟩ : Addr).add 0) (.bool t6) a9 /\ ∃ t8, Loads P 4 ((⟨a6, 0, none⟩ : Addr).add 0) (.bool t8) a9 /\ ((t6 == t8) = true ->
 ∃ aa, (∀ wv_3, Ext a9.drew wv_3 -> Loads P 4 ((⟨r, 0, none⟩ : Addr).add 0) (.bool aa) wv_3) /\ ∃ ab ac ae, (∀ wv_4, Ext a9.drew wv_4 -> Loads P 29 ((⟨r, 0, none⟩ : Addr).add 1) (.slice ab ac ae) wv_4) /\ ∃ af ag ah, (∀ wv_5, Ext a9.drew wv_5 -> Loads P 29 ((⟨a6, 0, none⟩ : Addr).add 1) (.slice af ag ah) wv_5) /\ Calls P 171 ⟨[.slice ab ac ae, .slice af ag ah]⟩ a9.drew fun e ai =>
 ∃ aj ak al, e = .returned (.slice aj ak al) /\
 Ext a9.drew ai /\ Calls P 170 ⟨[.bool aa, .slice aj ak al]⟩ ai fun am an =>
 ∃ ao ap aq ar, am = .returned (.agg #[.bool ao, .slice ap aq ar]) /\
 ∃ wv_8, Stores P 31 ⟨a8, 0, none⟩ (.agg #[.bool ao, .slice ap aq ar]) an wv_8 /\
 ∃ r0 au av aw, Loads P 31 ⟨a8, 0, none⟩ (.agg #[.bool r0, .slice au av aw]) wv_8 /\ R (.agg #[.bool r0, .slice au av aw]) wv_8) /\
 ((t6 == t8) = false ->
 ∃ ax ay az, Loads P 29 ((⟨r, 0, none⟩ : Addr).add 1) (.slice ax ay az) a9 /\ ∃ b0 b1 b2, Loads P 29 ((⟨a6, 0, none⟩ : Addr).add 1) (.slice b0 b1 b2) a9 /\ Calls P 127 ⟨[.slice ax ay az, .slice b0 b1 b2]⟩ a9 fun b3 b4 =>
 ∃ b5, b3 = .returned (.int .i64 b5) /\
 ((decide ((b5 : Int) < 0)) = true ->
 ∃ b6 b7 b8 b9, Loads P 31 ⟨a6, 0, none⟩ (.agg #[.bool b6, .slice b7 b8 b9]) b4 /\ ∃ ba bb bc bd, Loads P 31 ⟨r, 0, none⟩ (.agg #[.bool ba, .slice bb bc bd]) b4 /\ ∃ wv_10, Stores P 31 ⟨r, 0, none⟩ (.agg #[.bool b6, .slice b7 b8 b9]) b4 wv_10 /\
 ∃ wv_11, Stores P 31 ⟨a6, 0, none⟩ (.agg #[.bool ba, .slice bb bc bd]) wv_10 wv_11 /\
 impl_intAdd_j0 r a6 a8 wv_11 R) /\
 ((decide ((b5 : Int) < 0)) = false ->
 impl_intAdd_j0 r a6 a8 b4 R))
theorem impl_intAdd_ret {x0 : Bool} {a : Option Addr} {a0 a1 : Nat} {y0 : Bool} {a2 : Option Addr} {a3 a4 : Nat} (h : impl_intAdd x0 a a0 a1 y0 a2 a3 a4 w R) : Ret P 94 [.agg #[.bool x0, .slice a a0 a1], .agg #[.bool y0, .slice a2 a3 a4]] w R := Ret.of_fsem Tryz.func94 rfl (Eq.mp (show _ = fsem P Tryz.f94 (fun k => []) _ R w from by kernel_rfl) h)
def impl_intSame (x0 : Bool) (a0 : Option Addr) (a1 a2 : Nat) (y0 : Bool) (a3 : Option Addr) (a4 a5 : Nat) (w : World) (R : Value -> World -> Prop) : Prop :=
 ∀ r wv, New w (.cells ⟨[.bool x0, .slice a0 a1 a2]⟩ 31 (0, 0)) r wv ->
 ∀ a6 a7, New wv (.cells ⟨[.bool y0, .slice a3 a4 a5]⟩ 31 (0, 0)) a6 a7 ->
 ∃ t6, Loads P 4 ((⟨r, 0, none⟩ : Addr).add 0) (.bool t6) a7 /\ ∃ t8, Loads P 4 ((⟨a6, 0, none⟩ : Addr).add 0) (.bool t8) a7 /\ ((t6 == t8) = true ->
 ∃ a8 a9 aa, Loads P 29 ((⟨r, 0, none⟩ : Addr).add 1) (.slice a8 a9 aa) a7 /\ ∃ ab ac ae, Loads P 29 ((⟨a6, 0, none⟩ : Addr).add 1) (.slice ab ac ae) a7 /\ Calls P 172 ⟨[.slice a8 a9 aa, .slice ab ac ae]⟩ a7 fun e af =>
 ∃ ag, e = .returned (.bool ag) /\
 R (.bool ag) af) /\
 ((t6 == t8) = false ->
 R (.bool false) a7)
theorem impl_intSame_ret {x0 : Bool} {a : Option Addr} {a0 a1 : Nat} {y0 : Bool} {a2 : Option Addr} {a3 a4 : Nat} (h : impl_intSame x0 a a0 a1 y0 a2 a3 a4 w R) : Ret P 95 [.agg #[.bool x0, .slice a a0 a1], .agg #[.bool y0, .slice a2 a3 a4]] w R := Ret.of_fsem Tryz.func95 rfl (Eq.mp (show _ = fsem P Tryz.f95 (fun k => []) _ R w from by kernel_rfl) h)
def impl_IntOk (x0 : Bool) (a0 : Option Addr) (a1 a2 : Nat) (w : World) (R : Value -> World -> Prop) : Prop :=
 ∀ r wv, New w (.cells ⟨[.bool x0, .slice a0 a1 a2]⟩ 31 (0, 0)) r wv ->
 ∃ a3 a4 a5, Loads P 29 ((⟨r, 0, none⟩ : Addr).add 1) (.slice a3 a4 a5) wv /\ Calls P 173 ⟨[.slice a3 a4 a5]⟩ wv fun e a6 =>
 ∃ t5, e = .returned (.bool t5) /\
 (t5 = true ->
 ∃ t8, Loads P 4 ((⟨r, 0, none⟩ : Addr).add 0) (.bool t8) a6 /\ ((!t8) = true ->
 R (.bool true) a6) /\
 ((!t8) = false ->
 ∃ a7 a8 a9, Loads P 29 ((⟨r, 0, none⟩ : Addr).add 1) (.slice a7 a8 a9) a6 /\ R (.bool (decide ((0 : Int) < ((a8 : Nat) : Int)))) a6)) /\
 (t5 = false ->
 R (.bool false) a6)
theorem impl_IntOk_ret {x0 : Bool} {a : Option Addr} {a0 a1 : Nat} (h : impl_IntOk x0 a a0 a1 w R) : Ret P 96 [.agg #[.bool x0, .slice a a0 a1]] w R := Ret.of_fsem Tryz.func96 rfl (Eq.mp (show _ = fsem P Tryz.f96 (fun k => []) _ R w from by kernel_rfl) h)
def impl_intSign (x0 : Bool) (a0 : Option Addr) (a1 a2 : Nat) (w : World) (R : Value -> World -> Prop) : Prop :=
 ∀ r wv, New w (.cells ⟨[.bool x0, .slice a0 a1 a2]⟩ 31 (0, 0)) r wv ->
 ∃ a3 a4 a5, Loads P 29 ((⟨r, 0, none⟩ : Addr).add 1) (.slice a3 a4 a5) wv /\ ((decide ((((a4 : Nat) : Int) : Int) = 0)) = true ->
 R (.int .i64 0) wv) /\
 ((decide ((((a4 : Nat) : Int) : Int) = 0)) = false ->
 ∃ a6, Loads P 4 ((⟨r, 0, none⟩ : Addr).add 0) (.bool a6) wv /\ (a6 = true ->
 R (.int .i64 (-1)) wv) /\
 (a6 = false ->
 R (.int .i64 1) wv))
theorem impl_intSign_ret {x0 : Bool} {a : Option Addr} {a0 a1 : Nat} (h : impl_intSign x0 a a0 a1 w R) : Ret P 97 [.agg #[.bool x0, .slice a a0 a1]] w R := Ret.of_fsem Tryz.func97 rfl (Eq.mp (show _ = fsem P Tryz.f97 (fun k => []) _ R w from by kernel_rfl) h)
def spec_l01Str (c a0 : Option Addr) (a1 a2 : Nat) (w : World) (R : Value -> World -> Prop) : Prop :=
 Calls P 83 ⟨[(.pointer c), (.int .i64 ((a1 : Nat) : Int))]⟩ w fun e wv =>
 ∃ t9, e = .returned (.int .i64 t9) /\
 (0 <= (t9 : Int) /\ (t9 : Int) < (a1 : Nat)) /\ ptrS a0 fun ad => ∃ a3, Loads P 9 (ad.add (t9.toNat * 1)) (.string a3) wv /\ R (.string a3) wv
theorem spec_l01Str_ret {c a : Option Addr} {a0 a1 : Nat} (h : spec_l01Str c a a0 a1 w R) : Ret P 99 [.pointer c, .slice a a0 a1] w R := Ret.of_fsem Tryz.func99 rfl (Eq.mp (show _ = fsem P Tryz.f99 (fun k => []) _ R w from by kernel_rfl) h)
def spec_Curs (w : World) (R : Value -> World -> Prop) : Prop :=
 ∀ r wv, New w (.cells ⟨[]⟩ 9 (0, 0)) r wv ->
 Calls P 174 ⟨[]⟩ wv fun e a0 =>
 ∃ a1 a2 a3, e = .returned (.slice a1 a2 a3) /\
 ∃ (a4 : Option Addr -> Nat -> Nat -> Int -> World -> Prop) (mu : Option Addr -> Nat -> Nat -> Int -> World -> Nat), a4 (some ⟨r, 0, none⟩) 0 0 0 a0 /\
 ∀ (a5 : Fr) (a6 : World) (a7 : Option Addr) (a8 a9 : Nat) (t7 : Int), a4 a7 a8 a9 t7 a6 ->
 ((decide ((t7 : Int) < ((a2 : Nat) : Int))) = true ->
 (0 <= (t7 : Int) /\ (t7 : Int) < (a2 : Nat)) /\ ptrS a1 fun ad => ∃ aa ab ac ae, Loads P 201 (ad.add (t7.toNat * 4)) (.agg #[.string aa, .string ab, .int .i64 ac, .int .i64 ae]) a6 /\ ∀ af ag, New a6 (.cells ⟨[.string ByteArray.empty, .string ByteArray.empty, .int .i64 0, .int .i64 0]⟩ 201 (0, 0)) af ag ->
 ∃ wv_4, Stores P 201 ⟨af, 0, none⟩ (.agg #[.string aa, .string ab, .int .i64 ac, .int .i64 ae]) ag wv_4 /\
 ∃ ah, Loads P 9 ((⟨af, 0, none⟩ : Addr).add 0) (.string ah) wv_4 /\ ∀ ai aj, New wv_4 (.cells ⟨[.string ah]⟩ 9 (0, 0)) ai aj ->
 ∃ ak al am an, Appends P [98, 98] [.slice a7 a8 a9, (.slice (some ⟨ai, 0, none⟩) 1 1)] (.slice ak al am) aj an /\
 ∃ ao : Int, ao = IntKind.wrap .i64 (t7 + 1) /\ a4 ak al am ao an /\ mu ak al am ao an < mu a7 a8 a9 t7 a6) /\
 ((decide ((t7 : Int) < ((a2 : Nat) : Int))) = false ->
 R (.slice a7 a8 a9) a6)
theorem spec_Curs_ret (h : spec_Curs w R) : Ret P 100 [] w R := Ret.of_fsem Tryz.func100 rfl (Eq.mp (show _ = fsem P Tryz.f100 (fun k => cond (Nat.beq k 4) [(1, .one .slice), (7, .one (.int .i64))] ([])) _ R w from by kernel_rfl) h)
def spec_l04Draw (c : Option Addr) (most : Int) (w : World) (R : Value -> World -> Prop) : Prop :=
 ∀ r wv, New w (.cells ⟨[.bool false, .slice none 0 0]⟩ 31 (0, 0)) r wv ->
 Calls P 175 ⟨[(.pointer c), .int .i64 3]⟩ wv fun e a0 =>
 ∃ t6, e = .returned (.bool t6) /\
 (t6 = true ->
 Calls P 83 ⟨[(.pointer c), .int .i64 2001]⟩ a0 fun a1 a2 =>
 ∃ t8, a1 = .returned (.int .i64 t8) /\
 ∃ t9 : Int, t9 = IntKind.wrap .i64 (t8 - 1000) /\ Calls P 82 ⟨[.int .i64 t9]⟩ a2 fun a3 a4 =>
 ∃ a5 a6 a7 a8, a3 = .returned (.agg #[.bool a5, .slice a6 a7 a8]) /\
 ∃ wv_4, Stores P 31 ⟨r, 0, none⟩ (.agg #[.bool a5, .slice a6 a7 a8]) a4 wv_4 /\
 ∃ r0 a9 aa ab, Loads P 31 ⟨r, 0, none⟩ (.agg #[.bool r0, .slice a9 aa ab]) wv_4 /\ R (.agg #[.bool r0, .slice a9 aa ab]) wv_4) /\
 (t6 = false ->
 Calls P 175 ⟨[(.pointer c), .int .i64 2]⟩ a0 fun ac ae =>
 ∃ af, ac = .returned (.bool af) /\
 Calls P 176 ⟨[(.pointer c), .int .i64 most]⟩ ae fun ag ah =>
 ∃ ai aj ak, ag = .returned (.slice ai aj ak) /\
 Calls P 164 ⟨[.bool af, .slice ai aj ak]⟩ ah fun al am =>
 ∃ an ao ap aq, al = .returned (.agg #[.bool an, .slice ao ap aq]) /\
 ∃ wv_8, Stores P 31 ⟨r, 0, none⟩ (.agg #[.bool an, .slice ao ap aq]) am wv_8 /\
 ∃ r0_1 ar au av, Loads P 31 ⟨r, 0, none⟩ (.agg #[.bool r0_1, .slice ar au av]) wv_8 /\ R (.agg #[.bool r0_1, .slice ar au av]) wv_8)
theorem spec_l04Draw_ret {c : Option Addr} {a : Int} (h : spec_l04Draw c a w R) : Ret P 101 [.pointer c, .int .i64 a] w R := Ret.of_fsem Tryz.func101 rfl (Eq.mp (show _ = fsem P Tryz.f101 (fun k => []) _ R w from by kernel_rfl) h)
def impl_MoneyOk (m0 : ByteArray) (m1 : Bool) (a0 : Option Addr) (a1 a2 : Nat) (w : World) (R : Value -> World -> Prop) : Prop :=
 ∀ r wv, New w (.cells ⟨[.string m0, .bool m1, .slice a0 a1 a2]⟩ 33 (0, 0)) r wv ->
 ∃ t4, Loads P 9 ((⟨r, 0, none⟩ : Addr).add 0) (.string t4) wv /\ Calls P 177 ⟨[.string t4]⟩ wv fun e a3 =>
 ∃ t5, e = .returned (.bool t5) /\
 (t5 = true ->
 ∃ a4 a5 a6 a7, Loads P 31 ((⟨r, 0, none⟩ : Addr).add 1) (.agg #[.bool a4, .slice a5 a6 a7]) a3 /\ Calls P 96 ⟨[.agg #[.bool a4, .slice a5 a6 a7]]⟩ a3 fun a8 a9 =>
 ∃ t9, a8 = .returned (.bool t9) /\
 (t9 = true ->
 ∃ aa ab ac, Loads P 29 (((⟨r, 0, none⟩ : Addr).add 1).add 1) (.slice aa ab ac) a9 /\ R (.bool (decide ((((ab : Nat) : Int) : Int) <= 4))) a9) /\
 (t9 = false ->
 R (.bool false) a9)) /\
 (t5 = false ->
 (false = true ->
 ∃ ae af ag, Loads P 29 (((⟨r, 0, none⟩ : Addr).add 1).add 1) (.slice ae af ag) a3 /\ R (.bool (decide ((((af : Nat) : Int) : Int) <= 4))) a3) /\
 (false = false ->
 R (.bool false) a3))
theorem impl_MoneyOk_ret {m0 : ByteArray} {m1 : Bool} {a : Option Addr} {a0 a1 : Nat} (h : impl_MoneyOk m0 m1 a a0 a1 w R) : Ret P 102 [.agg #[.string m0, .bool m1, .slice a a0 a1]] w R := Ret.of_fsem Tryz.func102 rfl (Eq.mp (show _ = fsem P Tryz.f102 (fun k => []) _ R w from by kernel_rfl) h)
def impl_TaxRateOk (r0 : Bool) (a0 : Option Addr) (a1 a2 : Nat) (r2 : Int) (w : World) (R : Value -> World -> Prop) : Prop :=
 ∀ r wv, New w (.cells ⟨[.bool r0, .slice a0 a1 a2, .int .i64 r2]⟩ 36 (0, 0)) r wv ->
 ∃ a3 a4 a5 a6 a7, (∀ wv_1, Ext wv.drew wv_1 -> Loads P 36 ⟨r, 0, none⟩ (.agg #[.bool a3, .slice a4 a5 a6, .int .i64 a7]) wv_1) /\ Calls P 112 ⟨[.agg #[.bool a3, .slice a4 a5 a6, .int .i64 a7]]⟩ wv.drew fun e a8 =>
 ∃ t4, e = .returned (.bool t4) /\
 (t4 = true ->
 ∃ a9 aa ab, (∀ wv_3, Ext a8 wv_3 -> Loads P 29 (((⟨r, 0, none⟩ : Addr).add 0).add 1) (.slice a9 aa ab) wv_3) /\ ((decide ((((aa : Nat) : Int) : Int) <= 1)) = true ->
 ∃ ac, (∀ wv_4, Ext a8 wv_4 -> Loads P 4 (((⟨r, 0, none⟩ : Addr).add 0).add 0) (.bool ac) wv_4) /\ ((!ac) = true ->
 ∃ ae af ag ah ai, (∀ wv_5, Ext a8 wv_5 -> Loads P 36 ⟨r, 0, none⟩ (.agg #[.bool ae, .slice af ag ah, .int .i64 ai]) wv_5) /\ Calls P 32 ⟨[.int .i64 1]⟩ a8 fun aj ak =>
 ∃ al am an ao, aj = .returned (.agg #[.bool al, .slice am an ao]) /\
 Ext a8 ak /\ Calls P 41 ⟨[.agg #[.bool ae, .slice af ag ah, .int .i64 ai], .agg #[.bool al, .slice am an ao, .int .i64 0]]⟩ ak fun ap aq =>
 ∃ ar, ap = .returned (.int .i64 ar) /\
 R (.bool (decide ((ar : Int) <= 0))) aq) /\
 ((!ac) = false ->
 R (.bool false) a8)) /\
 ((decide ((((aa : Nat) : Int) : Int) <= 1)) = false ->
 (false = true ->
 ∃ au av aw ax ay, (∀ wv_8, Ext a8 wv_8 -> Loads P 36 ⟨r, 0, none⟩ (.agg #[.bool au, .slice av aw ax, .int .i64 ay]) wv_8) /\ Calls P 32 ⟨[.int .i64 1]⟩ a8 fun az b0 =>
 ∃ b1 b2 b3 b4, az = .returned (.agg #[.bool b1, .slice b2 b3 b4]) /\
 Ext a8 b0 /\ Calls P 41 ⟨[.agg #[.bool au, .slice av aw ax, .int .i64 ay], .agg #[.bool b1, .slice b2 b3 b4, .int .i64 0]]⟩ b0 fun b5 b6 =>
 ∃ b7, b5 = .returned (.int .i64 b7) /\
 R (.bool (decide ((b7 : Int) <= 0))) b6) /\
 (false = false ->
 R (.bool false) a8))) /\
 (t4 = false ->
 (false = true ->
 ∃ b8, (∀ wv_11, Ext a8 wv_11 -> Loads P 4 (((⟨r, 0, none⟩ : Addr).add 0).add 0) (.bool b8) wv_11) /\ ((!b8) = true ->
 ∃ b9 ba bb bc bd, (∀ wv_12, Ext a8 wv_12 -> Loads P 36 ⟨r, 0, none⟩ (.agg #[.bool b9, .slice ba bb bc, .int .i64 bd]) wv_12) /\ Calls P 32 ⟨[.int .i64 1]⟩ a8 fun be bf =>
 ∃ bg bh bi bj, be = .returned (.agg #[.bool bg, .slice bh bi bj]) /\
 Ext a8 bf /\ Calls P 41 ⟨[.agg #[.bool b9, .slice ba bb bc, .int .i64 bd], .agg #[.bool bg, .slice bh bi bj, .int .i64 0]]⟩ bf fun bk bl =>
 ∃ bm, bk = .returned (.int .i64 bm) /\
 R (.bool (decide ((bm : Int) <= 0))) bl) /\
 ((!b8) = false ->
 R (.bool false) a8)) /\
 (false = false ->
 (false = true ->
 ∃ bn bo bp bq br, (∀ wv_15, Ext a8 wv_15 -> Loads P 36 ⟨r, 0, none⟩ (.agg #[.bool bn, .slice bo bp bq, .int .i64 br]) wv_15) /\ Calls P 32 ⟨[.int .i64 1]⟩ a8 fun bs bt =>
 ∃ bu bv bw bx, bs = .returned (.agg #[.bool bu, .slice bv bw bx]) /\
 Ext a8 bt /\ Calls P 41 ⟨[.agg #[.bool bn, .slice bo bp bq, .int .i64 br], .agg #[.bool bu, .slice bv bw bx, .int .i64 0]]⟩ bt fun bz c0 =>
 ∃ c1, bz = .returned (.int .i64 c1) /\
 R (.bool (decide ((c1 : Int) <= 0))) c0) /\
 (false = false ->
 R (.bool false) a8)))
theorem impl_TaxRateOk_ret {r0 : Bool} {a : Option Addr} {a0 a1 : Nat} {r2 : Int} (h : impl_TaxRateOk r0 a a0 a1 r2 w R) : Ret P 103 [.agg #[.bool r0, .slice a a0 a1, .int .i64 r2]] w R := Ret.of_fsem Tryz.func103 rfl (Eq.mp (show _ = fsem P Tryz.f103 (fun k => []) _ R w from by kernel_rfl) h)
def impl_RatDiv_j0 (r a0 a1 : Nat) (W : World) (R : Value -> World -> Prop) : Prop :=
 ∃ a2, (∀ wv_5, Ext W.drew wv_5 -> Loads P 4 (((⟨r, 0, none⟩ : Addr).add 0).add 0) (.bool a2) wv_5) /\ ∃ a3, (∀ wv_6, Ext W.drew wv_6 -> Loads P 4 (((⟨a0, 0, none⟩ : Addr).add 0).add 0) (.bool a3) wv_6) /\ ∃ a4 a5 a6, (∀ wv_7, Ext W.drew wv_7 -> Loads P 29 (((⟨r, 0, none⟩ : Addr).add 0).add 1) (.slice a4 a5 a6) wv_7) /\ ∃ a7 a8 a9, (∀ wv_8, Ext W.drew wv_8 -> Loads P 29 ((⟨a0, 0, none⟩ : Addr).add 2) (.slice a7 a8 a9) wv_8) /\ Calls P 109 ⟨[.slice a4 a5 a6, .slice a7 a8 a9]⟩ W.drew fun aa ab =>
 ∃ ac ae af, aa = .returned (.slice ac ae af) /\
 Ext W.drew ab /\ Calls P 170 ⟨[(.bool (!(a2 == a3))), .slice ac ae af]⟩ ab fun ag ah =>
 ∃ ai aj ak al, ag = .returned (.agg #[.bool ai, .slice aj ak al]) /\
 Ext ab ah /\ ∃ am an ao, (∀ wv_11, Ext W.drew wv_11 -> Loads P 29 ((⟨r, 0, none⟩ : Addr).add 2) (.slice am an ao) wv_11) /\ ∃ ap aq ar, (∀ wv_12, Ext W.drew wv_12 -> Loads P 29 (((⟨a0, 0, none⟩ : Addr).add 0).add 1) (.slice ap aq ar) wv_12) /\ Calls P 109 ⟨[.slice am an ao, .slice ap aq ar]⟩ ah fun au av =>
 ∃ aw ax ay, au = .returned (.slice aw ax ay) /\
 Calls P 108 ⟨[.agg #[.bool ai, .slice aj ak al], .slice aw ax ay]⟩ av fun az b0 =>
 ∃ b1 b2 b3 b4 b5 b6 b7 b8, az = .returned (.tuple #[.agg #[.bool b1, .slice b2 b3 b4, .slice b5 b6 b7], .bool b8]) /\
 ∃ wv_15, Stores P 60 ⟨a1, 0, none⟩ (.agg #[.bool b1, .slice b2 b3 b4, .slice b5 b6 b7]) b0 wv_15 /\
 ∃ r0_2 b9 ba bb bc bd be, Loads P 60 ⟨a1, 0, none⟩ (.agg #[.bool r0_2, .slice b9 ba bb, .slice bc bd be]) wv_15 /\ R (.tuple #[.agg #[.bool r0_2, .slice b9 ba bb, .slice bc bd be], .bool b8]) wv_15
def impl_RatDiv (r0 : Bool) (a0 : Option Addr) (a1 a2 : Nat) (a3 : Option Addr) (a4 a5 : Nat) (s0 : Bool) (a6 : Option Addr) (a7 a8 : Nat) (a9 : Option Addr) (aa ab : Nat) (w : World) (R : Value -> World -> Prop) : Prop :=
 ∀ r wv, New w (.cells ⟨[.bool r0, .slice a0 a1 a2, .slice a3 a4 a5]⟩ 60 (0, 0)) r wv ->
 ∀ ac ae, New wv (.cells ⟨[.bool s0, .slice a6 a7 a8, .slice a9 aa ab]⟩ 60 (0, 0)) ac ae ->
 ∀ af ag, New ae (.cells ⟨[.bool false, .slice none 0 0, .slice none 0 0]⟩ 60 (0, 0)) af ag ->
 ∃ ah ai aj ak al am an, Loads P 60 ⟨r, 0, none⟩ (.agg #[.bool ah, .slice ai aj ak, .slice al am an]) ag /\ ∃ ao ap aq ar au av aw, Loads P 60 ⟨ac, 0, none⟩ (.agg #[.bool ao, .slice ap aq ar, .slice au av aw]) ag /\ Calls P 106 ⟨[.agg #[.bool ah, .slice ai aj ak, .slice al am an], .agg #[.bool ao, .slice ap aq ar, .slice au av aw]]⟩ ag fun e ax =>
 ∃ t8, e = .returned (.bool t8) /\
 ((!t8) = true ->
 (true = true ->
 ∃ wv_4, Stores P 60 ⟨af, 0, none⟩ (.agg #[.bool false, .slice none 0 0, .slice none 0 0]) ax wv_4 /\
 ∃ r0_1 ay az b0 b1 b2 b3, Loads P 60 ⟨af, 0, none⟩ (.agg #[.bool r0_1, .slice ay az b0, .slice b1 b2 b3]) wv_4 /\ R (.tuple #[.agg #[.bool r0_1, .slice ay az b0, .slice b1 b2 b3], .bool false]) wv_4) /\
 (true = false ->
 impl_RatDiv_j0 r ac af ax R)) /\
 ((!t8) = false ->
 ∃ b4 b5 b6, Loads P 29 (((⟨ac, 0, none⟩ : Addr).add 0).add 1) (.slice b4 b5 b6) ax /\ ((decide ((((b5 : Nat) : Int) : Int) = 0)) = true ->
 ∃ wv_16, Stores P 60 ⟨af, 0, none⟩ (.agg #[.bool false, .slice none 0 0, .slice none 0 0]) ax wv_16 /\
 ∃ r0_3 b7 b8 b9 ba bb bc, Loads P 60 ⟨af, 0, none⟩ (.agg #[.bool r0_3, .slice b7 b8 b9, .slice ba bb bc]) wv_16 /\ R (.tuple #[.agg #[.bool r0_3, .slice b7 b8 b9, .slice ba bb bc], .bool false]) wv_16) /\
 ((decide ((((b5 : Nat) : Int) : Int) = 0)) = false ->
 impl_RatDiv_j0 r ac af ax R))
theorem impl_RatDiv_ret {r0 : Bool} {a : Option Addr} {a0 a1 : Nat} {a2 : Option Addr} {a3 a4 : Nat} {s0 : Bool} {a5 : Option Addr} {a6 a7 : Nat} {a8 : Option Addr} {a9 b : Nat} (h : impl_RatDiv r0 a a0 a1 a2 a3 a4 s0 a5 a6 a7 a8 a9 b w R) : Ret P 104 [.agg #[.bool r0, .slice a a0 a1, .slice a2 a3 a4], .agg #[.bool s0, .slice a5 a6 a7, .slice a8 a9 b]] w R := Ret.of_fsem Tryz.func104 rfl (Eq.mp (show _ = fsem P Tryz.f104 (fun k => []) _ R w from by kernel_rfl) h)
end Go.Proofs.YtbgokfhcgcoipaaGreatDoor
namespace Go.Proofs.YtbgokfhcgcoipaaGreatDoor
variable {w : World} {R : Value -> World -> Prop}
open Go Go.Proofs.YtbgokfhcgcoipaaGreatDoor.Sx
set_option maxRecDepth 100000
def impl_RatMoney (cur : ByteArray) (r0 : Bool) (a0 : Option Addr) (a1 a2 : Nat) (a3 : Option Addr) (a4 a5 : Nat) (mode : Int) (w : World) (R : Value -> World -> Prop) : Prop :=
 ∀ r wv, New w (.cells ⟨[.bool r0, .slice a0 a1 a2, .slice a3 a4 a5]⟩ 60 (0, 0)) r wv ->
 ∀ a6 a7, New wv (.cells ⟨[.string ByteArray.empty, .bool false, .slice none 0 0]⟩ 33 (0, 0)) a6 a7 ->
 ∀ a8 a9, New a7 (.cells ⟨[.bool false, .slice none 0 0, .slice none 0 0]⟩ 60 (0, 0)) a8 a9 ->
 ∃ aa ab ac ae af ag ah, Loads P 60 ⟨r, 0, none⟩ (.agg #[.bool aa, .slice ab ac ae, .slice af ag ah]) a9 /\ Calls P 178 ⟨[.agg #[.bool aa, .slice ab ac ae, .slice af ag ah], .int .i64 mode]⟩ a9 fun e ai =>
 ∃ aj ak al am an ao ap aq ar au av aw, e = .returned (.tuple #[.agg #[.bool aj, .slice ak al am], .agg #[.bool an, .slice ao ap aq, .slice ar au av], .bool aw]) /\
 ∀ ax ay, New ai (.cells ⟨[.bool false, .slice none 0 0]⟩ 31 (0, 0)) ax ay ->
 ∀ az b0, New ay (.cells ⟨[.bool false, .slice none 0 0, .slice none 0 0]⟩ 60 (0, 0)) az b0 ->
 ∃ wv_6, Stores P 31 ⟨ax, 0, none⟩ (.agg #[.bool aj, .slice ak al am]) b0 wv_6 /\
 ∃ wv_7, Stores P 60 ⟨az, 0, none⟩ (.agg #[.bool an, .slice ao ap aq, .slice ar au av]) wv_6 wv_7 /\
 ((!aw) = true ->
 ∃ wv_8, Stores P 33 ⟨a6, 0, none⟩ (.agg #[.string ByteArray.empty, .bool false, .slice none 0 0]) wv_7 wv_8 /\
 ∃ wv_9, Stores P 60 ⟨a8, 0, none⟩ (.agg #[.bool false, .slice none 0 0, .slice none 0 0]) wv_8 wv_9 /\
 ∃ r0_1 r1 b1 b2 b3, Loads P 33 ⟨a6, 0, none⟩ (.agg #[.string r0_1, .bool r1, .slice b1 b2 b3]) wv_9 /\ ∃ r0_2 b4 b5 b6 b7 b8 b9, Loads P 60 ⟨a8, 0, none⟩ (.agg #[.bool r0_2, .slice b4 b5 b6, .slice b7 b8 b9]) wv_9 /\ R (.tuple #[.agg #[.string r0_1, .bool r1, .slice b1 b2 b3], .agg #[.bool r0_2, .slice b4 b5 b6, .slice b7 b8 b9], .bool false]) wv_9) /\
 ((!aw) = false ->
 ∃ ba bb bc bd, Loads P 31 ⟨ax, 0, none⟩ (.agg #[.bool ba, .slice bb bc bd]) wv_7 /\ Calls P 85 ⟨[.string cur, .agg #[.bool ba, .slice bb bc bd]]⟩ wv_7 fun be bf =>
 ∃ bg bh bi bj bk bl, be = .returned (.tuple #[.agg #[.string bg, .bool bh, .slice bi bj bk], .bool bl]) /\
 ∀ bm bn, New bf (.cells ⟨[.string ByteArray.empty, .bool false, .slice none 0 0]⟩ 33 (0, 0)) bm bn ->
 ∃ wv_12, Stores P 33 ⟨bm, 0, none⟩ (.agg #[.string bg, .bool bh, .slice bi bj bk]) bn wv_12 /\
 ((!bl) = true ->
 ∃ wv_13, Stores P 33 ⟨a6, 0, none⟩ (.agg #[.string ByteArray.empty, .bool false, .slice none 0 0]) wv_12 wv_13 /\
 ∃ wv_14, Stores P 60 ⟨a8, 0, none⟩ (.agg #[.bool false, .slice none 0 0, .slice none 0 0]) wv_13 wv_14 /\
 ∃ r0_3 r1_1 bo bp bq, Loads P 33 ⟨a6, 0, none⟩ (.agg #[.string r0_3, .bool r1_1, .slice bo bp bq]) wv_14 /\ ∃ r0_4 br bs bt bu bv bw, Loads P 60 ⟨a8, 0, none⟩ (.agg #[.bool r0_4, .slice br bs bt, .slice bu bv bw]) wv_14 /\ R (.tuple #[.agg #[.string r0_3, .bool r1_1, .slice bo bp bq], .agg #[.bool r0_4, .slice br bs bt, .slice bu bv bw], .bool false]) wv_14) /\
 ((!bl) = false ->
 ∃ blks : List Nat, ∃ bx bz c0 c1 c2, (∀ wv_15, EX blks wv_12.drew wv_15 -> Loads P 33 ⟨bm, 0, none⟩ (.agg #[.string bx, .bool bz, .slice c0 c1 c2]) wv_15) /\ ∃ c3 c4 c5 c6 c7 c8 c9, (∀ wv_16, EX blks wv_12.drew wv_16 -> Loads P 60 ⟨az, 0, none⟩ (.agg #[.bool c3, .slice c4 c5 c6, .slice c7 c8 c9]) wv_16) /\ ∃ wv_17, Stores P 33 ⟨a6, 0, none⟩ (.agg #[.string bx, .bool bz, .slice c0 c1 c2]) wv_12.drew wv_17 /\
 EX blks wv_12.drew wv_17 /\ ∃ wv_18, Stores P 60 ⟨a8, 0, none⟩ (.agg #[.bool c3, .slice c4 c5 c6, .slice c7 c8 c9]) wv_17 wv_18 /\
 ∃ r0_5 r1_2 ca cb cc, Loads P 33 ⟨a6, 0, none⟩ (.agg #[.string r0_5, .bool r1_2, .slice ca cb cc]) wv_18 /\ ∃ r0_6 cd ce cf cg ch ci, Loads P 60 ⟨a8, 0, none⟩ (.agg #[.bool r0_6, .slice cd ce cf, .slice cg ch ci]) wv_18 /\ R (.tuple #[.agg #[.string r0_5, .bool r1_2, .slice ca cb cc], .agg #[.bool r0_6, .slice cd ce cf, .slice cg ch ci], .bool true]) wv_18))
theorem impl_RatMoney_ret {a : ByteArray} {r0 : Bool} {a0 : Option Addr} {a1 a2 : Nat} {a3 : Option Addr} {a4 a5 : Nat} {a6 : Int} (h : impl_RatMoney a r0 a0 a1 a2 a3 a4 a5 a6 w R) : Ret P 105 [.string a, .agg #[.bool r0, .slice a0 a1 a2, .slice a3 a4 a5], .int .i64 a6] w R := Ret.of_fsem Tryz.func105 rfl (Eq.mp (show _ = fsem P Tryz.f105 (fun k => []) _ R w from by kernel_rfl) h)
def impl_ratsOk (r0 : Bool) (a0 : Option Addr) (a1 a2 : Nat) (a3 : Option Addr) (a4 a5 : Nat) (s0 : Bool) (a6 : Option Addr) (a7 a8 : Nat) (a9 : Option Addr) (aa ab : Nat) (w : World) (R : Value -> World -> Prop) : Prop :=
 ∀ r wv, New w (.cells ⟨[.bool r0, .slice a0 a1 a2, .slice a3 a4 a5]⟩ 60 (0, 0)) r wv ->
 ∀ ac ae, New wv (.cells ⟨[.bool s0, .slice a6 a7 a8, .slice a9 aa ab]⟩ 60 (0, 0)) ac ae ->
 ∃ af ag ah ai aj ak al, Loads P 60 ⟨r, 0, none⟩ (.agg #[.bool af, .slice ag ah ai, .slice aj ak al]) ae /\ Calls P 132 ⟨[.agg #[.bool af, .slice ag ah ai, .slice aj ak al]]⟩ ae fun e am =>
 ∃ t6, e = .returned (.bool t6) /\
 (t6 = true ->
 ∃ an ao ap aq ar au av, Loads P 60 ⟨ac, 0, none⟩ (.agg #[.bool an, .slice ao ap aq, .slice ar au av]) am /\ Calls P 132 ⟨[.agg #[.bool an, .slice ao ap aq, .slice ar au av]]⟩ am fun aw ax =>
 ∃ t9, aw = .returned (.bool t9) /\
 R (.bool t9) ax) /\
 (t6 = false ->
 R (.bool false) am)
theorem impl_ratsOk_ret {r0 : Bool} {a : Option Addr} {a0 a1 : Nat} {a2 : Option Addr} {a3 a4 : Nat} {s0 : Bool} {a5 : Option Addr} {a6 a7 : Nat} {a8 : Option Addr} {a9 b : Nat} (h : impl_ratsOk r0 a a0 a1 a2 a3 a4 s0 a5 a6 a7 a8 a9 b w R) : Ret P 106 [.agg #[.bool r0, .slice a a0 a1, .slice a2 a3 a4], .agg #[.bool s0, .slice a5 a6 a7, .slice a8 a9 b]] w R := Ret.of_fsem Tryz.func106 rfl (Eq.mp (show _ = fsem P Tryz.f106 (fun k => []) _ R w from by kernel_rfl) h)
def impl_Rat_num (r0 : Bool) (a0 : Option Addr) (a1 a2 : Nat) (a3 : Option Addr) (a4 a5 : Nat) (a6 : Option Addr) (a7 a8 : Nat) (w : World) (R : Value -> World -> Prop) : Prop :=
 ∀ r wv, New w (.cells ⟨[.bool r0, .slice a0 a1 a2, .slice a3 a4 a5]⟩ 60 (0, 0)) r wv ->
 ∀ a9 aa, New wv (.cells ⟨[.bool false, .slice none 0 0]⟩ 31 (0, 0)) a9 aa ->
 ∃ t7, (∀ wv_2, Ext aa.drew wv_2 -> Loads P 4 (((⟨r, 0, none⟩ : Addr).add 0).add 0) (.bool t7) wv_2) /\ ∃ ab ac ae, (∀ wv_3, Ext aa.drew wv_3 -> Loads P 29 (((⟨r, 0, none⟩ : Addr).add 0).add 1) (.slice ab ac ae) wv_3) /\ Calls P 109 ⟨[.slice ab ac ae, .slice a6 a7 a8]⟩ aa.drew fun e af =>
 ∃ ag ah ai, e = .returned (.slice ag ah ai) /\
 Ext aa.drew af /\ Calls P 170 ⟨[.bool t7, .slice ag ah ai]⟩ af fun aj ak =>
 ∃ al am an ao, aj = .returned (.agg #[.bool al, .slice am an ao]) /\
 ∃ wv_6, Stores P 31 ⟨a9, 0, none⟩ (.agg #[.bool al, .slice am an ao]) ak wv_6 /\
 ∃ r0_1 ap aq ar, Loads P 31 ⟨a9, 0, none⟩ (.agg #[.bool r0_1, .slice ap aq ar]) wv_6 /\ R (.agg #[.bool r0_1, .slice ap aq ar]) wv_6
theorem impl_Rat_num_ret {r0 : Bool} {a : Option Addr} {a0 a1 : Nat} {a2 : Option Addr} {a3 a4 : Nat} {a5 : Option Addr} {a6 a7 : Nat} (h : impl_Rat_num r0 a a0 a1 a2 a3 a4 a5 a6 a7 w R) : Ret P 107 [.agg #[.bool r0, .slice a a0 a1, .slice a2 a3 a4], .slice a5 a6 a7] w R := Ret.of_fsem Tryz.func107 rfl (Eq.mp (show _ = fsem P Tryz.f107 (fun k => []) _ R w from by kernel_rfl) h)
def impl_reduce (num0 : Bool) (a0 : Option Addr) (a1 a2 : Nat) (a3 : Option Addr) (a4 a5 : Nat) (w : World) (R : Value -> World -> Prop) : Prop :=
 ∀ r wv, New w (.cells ⟨[.bool num0, .slice a0 a1 a2]⟩ 31 (0, 0)) r wv ->
 ∀ a6 a7, New wv (.cells ⟨[.bool false, .slice none 0 0, .slice none 0 0]⟩ 60 (0, 0)) a6 a7 ->
 ∃ a8 a9 aa, Loads P 29 ((⟨r, 0, none⟩ : Addr).add 1) (.slice a8 a9 aa) a7 /\ Calls P 179 ⟨[.slice a8 a9 aa, .slice a3 a4 a5]⟩ a7 fun e ab =>
 ∃ ac ae af, e = .returned (.slice ac ae af) /\
 ∃ ag ah ai, Loads P 29 ((⟨r, 0, none⟩ : Addr).add 1) (.slice ag ah ai) ab /\ Calls P 180 ⟨[.slice ag ah ai, .slice ac ae af]⟩ ab fun aj ak =>
 ∃ al am an ao ap aq, aj = .returned (.tuple #[.slice al am an, .slice ao ap aq]) /\
 Calls P 180 ⟨[.slice a3 a4 a5, .slice ac ae af]⟩ ak fun ar au =>
 ∃ av aw ax ay az b0, ar = .returned (.tuple #[.slice av aw ax, .slice ay az b0]) /\
 ((decide ((18 : Int) < ((am : Nat) : Int))) = true ->
 (true = true ->
 ∃ wv_5, Stores P 60 ⟨a6, 0, none⟩ (.agg #[.bool false, .slice none 0 0, .slice none 0 0]) au wv_5 /\
 ∃ r0 b1 b2 b3 b4 b5 b6, Loads P 60 ⟨a6, 0, none⟩ (.agg #[.bool r0, .slice b1 b2 b3, .slice b4 b5 b6]) wv_5 /\ R (.tuple #[.agg #[.bool r0, .slice b1 b2 b3, .slice b4 b5 b6], .bool false]) wv_5) /\
 (true = false ->
 ∃ b7, Loads P 4 ((⟨r, 0, none⟩ : Addr).add 0) (.bool b7) au /\ Calls P 170 ⟨[.bool b7, .slice al am an]⟩ au fun b8 b9 =>
 ∃ ba bb bc bd, b8 = .returned (.agg #[.bool ba, .slice bb bc bd]) /\
 ∃ wv_7, Stores P 60 ⟨a6, 0, none⟩ (.agg #[.bool ba, .slice bb bc bd, .slice av aw ax]) b9 wv_7 /\
 ∃ r0_1 be bf bg bh bi bj, Loads P 60 ⟨a6, 0, none⟩ (.agg #[.bool r0_1, .slice be bf bg, .slice bh bi bj]) wv_7 /\ R (.tuple #[.agg #[.bool r0_1, .slice be bf bg, .slice bh bi bj], .bool true]) wv_7)) /\
 ((decide ((18 : Int) < ((am : Nat) : Int))) = false ->
 ((decide ((18 : Int) < ((aw : Nat) : Int))) = true ->
 ∃ wv_8, Stores P 60 ⟨a6, 0, none⟩ (.agg #[.bool false, .slice none 0 0, .slice none 0 0]) au wv_8 /\
 ∃ r0_2 bk bl bm bn bo bp, Loads P 60 ⟨a6, 0, none⟩ (.agg #[.bool r0_2, .slice bk bl bm, .slice bn bo bp]) wv_8 /\ R (.tuple #[.agg #[.bool r0_2, .slice bk bl bm, .slice bn bo bp], .bool false]) wv_8) /\
 ((decide ((18 : Int) < ((aw : Nat) : Int))) = false ->
 ∃ bq, Loads P 4 ((⟨r, 0, none⟩ : Addr).add 0) (.bool bq) au /\ Calls P 170 ⟨[.bool bq, .slice al am an]⟩ au fun br bs =>
 ∃ bt bu bv bw, br = .returned (.agg #[.bool bt, .slice bu bv bw]) /\
 ∃ wv_10, Stores P 60 ⟨a6, 0, none⟩ (.agg #[.bool bt, .slice bu bv bw, .slice av aw ax]) bs wv_10 /\
 ∃ r0_3 bx bz c0 c1 c2 c3, Loads P 60 ⟨a6, 0, none⟩ (.agg #[.bool r0_3, .slice bx bz c0, .slice c1 c2 c3]) wv_10 /\ R (.tuple #[.agg #[.bool r0_3, .slice bx bz c0, .slice c1 c2 c3], .bool true]) wv_10))
theorem impl_reduce_ret {a : Bool} {a0 : Option Addr} {a1 a2 : Nat} {a3 : Option Addr} {a4 a5 : Nat} (h : impl_reduce a a0 a1 a2 a3 a4 a5 w R) : Ret P 108 [.agg #[.bool a, .slice a0 a1 a2], .slice a3 a4 a5] w R := Ret.of_fsem Tryz.func108 rfl (Eq.mp (show _ = fsem P Tryz.f108 (fun k => []) _ R w from by kernel_rfl) h)
def impl_natMul (a0 : Option Addr) (a1 a2 : Nat) (a3 : Option Addr) (a4 a5 : Nat) (w : World) (R : Value -> World -> Prop) : Prop :=
 ∃ a6 : Int, a6 = IntKind.wrap .i64 (((a1 : Nat) : Int) + ((a4 : Nat) : Int)) /\ ∃ a7 : Int, a7 = IntKind.wrap .i64 (a6 + 1) /\ (0 <= (a7 : Int) /\ (a7 : Int) <= a7 /\ ((8 : Nat) : Int) * a7 <= 281474976710656) /\
 ∀ r wv, New w (.cells ⟨zeroRow (.int .i64 0) (a7.toNat * 1)⟩ 3 (0, 0)) r wv ->
 ∃ (a8 : Int -> World -> Prop) (mu : Int -> World -> Nat), a8 0 wv /\
 ∀ (a9 : Fr) (aa : World) (ab : Int), a8 ab aa ->
 ((decide ((ab : Int) < ((a1 : Nat) : Int))) = true ->
 (0 <= (ab : Int) /\ (ab : Int) < (a1 : Nat)) /\ ptrS a0 fun ad => ∃ ac, Loads P 3 (ad.add (ab.toNat * 1)) (.int .i64 ac) aa /\ ∃ (ae : Int -> Int -> World -> Prop) (af : Int -> Int -> World -> Nat), ae 0 0 aa /\
 ∀ (ag : Fr) (ah : World) (carry ai : Int), ae carry ai ah ->
 ((decide ((ai : Int) < ((a4 : Nat) : Int))) = true ->
 (0 <= (ai : Int) /\ (ai : Int) < (a4 : Nat)) /\ ptrS a3 fun aj => ∃ ak, Loads P 3 (aj.add (ai.toNat * 1)) (.int .i64 ak) ah /\ ∃ al : Int, al = IntKind.wrap .i64 (ab + ai) /\ (0 <= (al : Int) /\ (al : Int) < (a7.toNat : Nat)) /\ ∃ am, Loads P 3 ((⟨r, 0, none⟩ : Addr).add (al.toNat * 1)) (.int .i64 am) ah /\ ∃ an : Int, an = IntKind.wrap .i64 (ac * ak) /\ ∃ ao : Int, ao = IntKind.wrap .i64 (am + an) /\ ∃ ap : Int, ap = IntKind.wrap .i64 (carry + ao) /\ ∃ aq : Int, aq = IntKind.wrap .i64 (ab + ai) /\ (1000000000 : Int) ≠ 0 /\ ∃ ar : Int, ar = Int.tmod ap 1000000000 /\ (0 <= (aq : Int) /\ (aq : Int) < (a7.toNat : Nat)) /\ ∃ wv_3, Stores P 3 ((⟨r, 0, none⟩ : Addr).add (aq.toNat * 1)) (.int .i64 ar) ah wv_3 /\
 (1000000000 : Int) ≠ 0 /\ ∃ au : Int, au = IntKind.wrap .i64 (Int.tdiv ap 1000000000) /\ ∃ av : Int, av = IntKind.wrap .i64 (ai + 1) /\ ae au av wv_3 /\ af au av wv_3 < af carry ai ah) /\
 ((decide ((ai : Int) < ((a4 : Nat) : Int))) = false ->
 ∃ aw : Int, aw = IntKind.wrap .i64 (ab + ((a4 : Nat) : Int)) /\ ∃ (ax : Int -> Int -> World -> Prop) (ay : Int -> Int -> World -> Nat), ax carry aw ah /\
 ∀ (az : Fr) (b0 : World) (carry_1 k : Int), ax carry_1 k b0 ->
 ((decide ((0 : Int) < carry_1)) = true ->
 (0 <= (k : Int) /\ (k : Int) < (a7.toNat : Nat)) /\ ∃ b1, Loads P 3 ((⟨r, 0, none⟩ : Addr).add (k.toNat * 1)) (.int .i64 b1) b0 /\ ∃ b2 : Int, b2 = IntKind.wrap .i64 (carry_1 + b1) /\ (1000000000 : Int) ≠ 0 /\ ∃ b3 : Int, b3 = Int.tmod b2 1000000000 /\ (0 <= (k : Int) /\ (k : Int) < (a7.toNat : Nat)) /\ ∃ wv_5, Stores P 3 ((⟨r, 0, none⟩ : Addr).add (k.toNat * 1)) (.int .i64 b3) b0 wv_5 /\
 (1000000000 : Int) ≠ 0 /\ ∃ b4 : Int, b4 = IntKind.wrap .i64 (Int.tdiv b2 1000000000) /\ ∃ b5 : Int, b5 = IntKind.wrap .i64 (k + 1) /\ ax b4 b5 wv_5 /\ ay b4 b5 wv_5 < ay carry_1 k b0) /\
 ((decide ((0 : Int) < carry_1)) = false ->
 ∃ b6 : Int, b6 = IntKind.wrap .i64 (ab + 1) /\ a8 b6 b0 /\ mu b6 b0 < mu ab aa))) /\
 ((decide ((ab : Int) < ((a1 : Nat) : Int))) = false ->
 Calls P 181 ⟨[(.slice (some ⟨r, 0, none⟩) a7.toNat a7.toNat)]⟩ aa fun e b7 =>
 ∃ b8 b9 ba, e = .returned (.slice b8 b9 ba) /\
 R (.slice b8 b9 ba) b7)
theorem impl_natMul_ret {a : Option Addr} {a0 a1 : Nat} {a2 : Option Addr} {a3 a4 : Nat} (h : impl_natMul a a0 a1 a2 a3 a4 w R) : Ret P 109 [.slice a a0 a1, .slice a2 a3 a4] w R := Ret.of_fsem Tryz.func109 rfl (Eq.mp (show _ = fsem P Tryz.f109 (fun k => cond (Nat.beq k 4) [(21, .one (.int .i64))] (cond (Nat.beq k 8) [(8, .one (.int .i64)), (28, .one (.int .i64))] (cond (Nat.beq k 15) [(8, .one (.int .i64)), (11, .one (.int .i64))] ([])))) _ R w from by kernel_rfl) h)
def impl_RatMake_j0 (r a0 a1 : Nat) (W : World) (R : Value -> World -> Prop) : Prop :=
 ∃ a2, (∀ wv_5, Ext W.drew wv_5 -> Loads P 4 ((⟨r, 0, none⟩ : Addr).add 0) (.bool a2) wv_5) /\ ∃ a3, (∀ wv_6, Ext W.drew wv_6 -> Loads P 4 ((⟨a0, 0, none⟩ : Addr).add 0) (.bool a3) wv_6) /\ ∃ a4 a5 a6, (∀ wv_7, Ext W.drew wv_7 -> Loads P 29 ((⟨r, 0, none⟩ : Addr).add 1) (.slice a4 a5 a6) wv_7) /\ Calls P 170 ⟨[(.bool (!(a2 == a3))), .slice a4 a5 a6]⟩ W.drew fun a7 a8 =>
 ∃ a9 aa ab ac, a7 = .returned (.agg #[.bool a9, .slice aa ab ac]) /\
 Ext W.drew a8 /\ ∃ ae af ag, (∀ wv_9, Ext W.drew wv_9 -> Loads P 29 ((⟨a0, 0, none⟩ : Addr).add 1) (.slice ae af ag) wv_9) /\ Calls P 108 ⟨[.agg #[.bool a9, .slice aa ab ac], .slice ae af ag]⟩ a8 fun ah ai =>
 ∃ aj ak al am an ao ap aq, ah = .returned (.tuple #[.agg #[.bool aj, .slice ak al am, .slice an ao ap], .bool aq]) /\
 ∃ wv_11, Stores P 60 ⟨a1, 0, none⟩ (.agg #[.bool aj, .slice ak al am, .slice an ao ap]) ai wv_11 /\
 ∃ r0_1 ar au av aw ax ay, Loads P 60 ⟨a1, 0, none⟩ (.agg #[.bool r0_1, .slice ar au av, .slice aw ax ay]) wv_11 /\ R (.tuple #[.agg #[.bool r0_1, .slice ar au av, .slice aw ax ay], .bool aq]) wv_11
def impl_RatMake (num0 : Bool) (a0 : Option Addr) (a1 a2 : Nat) (den0 : Bool) (a3 : Option Addr) (a4 a5 : Nat) (w : World) (R : Value -> World -> Prop) : Prop :=
 ∀ r wv, New w (.cells ⟨[.bool num0, .slice a0 a1 a2]⟩ 31 (0, 0)) r wv ->
 ∀ a6 a7, New wv (.cells ⟨[.bool den0, .slice a3 a4 a5]⟩ 31 (0, 0)) a6 a7 ->
 ∀ a8 a9, New a7 (.cells ⟨[.bool false, .slice none 0 0, .slice none 0 0]⟩ 60 (0, 0)) a8 a9 ->
 ∃ aa ab ac ae, Loads P 31 ⟨r, 0, none⟩ (.agg #[.bool aa, .slice ab ac ae]) a9 /\ ∃ af ag ah ai, Loads P 31 ⟨a6, 0, none⟩ (.agg #[.bool af, .slice ag ah ai]) a9 /\ Calls P 142 ⟨[.agg #[.bool aa, .slice ab ac ae], .agg #[.bool af, .slice ag ah ai]]⟩ a9 fun e aj =>
 ∃ t8, e = .returned (.bool t8) /\
 ((!t8) = true ->
 (true = true ->
 ∃ wv_4, Stores P 60 ⟨a8, 0, none⟩ (.agg #[.bool false, .slice none 0 0, .slice none 0 0]) aj wv_4 /\
 ∃ r0 ak al am an ao ap, Loads P 60 ⟨a8, 0, none⟩ (.agg #[.bool r0, .slice ak al am, .slice an ao ap]) wv_4 /\ R (.tuple #[.agg #[.bool r0, .slice ak al am, .slice an ao ap], .bool false]) wv_4) /\
 (true = false ->
 impl_RatMake_j0 r a6 a8 aj R)) /\
 ((!t8) = false ->
 ∃ aq ar au, Loads P 29 ((⟨a6, 0, none⟩ : Addr).add 1) (.slice aq ar au) aj /\ ((decide ((((ar : Nat) : Int) : Int) = 0)) = true ->
 ∃ wv_12, Stores P 60 ⟨a8, 0, none⟩ (.agg #[.bool false, .slice none 0 0, .slice none 0 0]) aj wv_12 /\
 ∃ r0_2 av aw ax ay az b0, Loads P 60 ⟨a8, 0, none⟩ (.agg #[.bool r0_2, .slice av aw ax, .slice ay az b0]) wv_12 /\ R (.tuple #[.agg #[.bool r0_2, .slice av aw ax, .slice ay az b0], .bool false]) wv_12) /\
 ((decide ((((ar : Nat) : Int) : Int) = 0)) = false ->
 impl_RatMake_j0 r a6 a8 aj R))
theorem impl_RatMake_ret {a : Bool} {a0 : Option Addr} {a1 a2 : Nat} {a3 : Bool} {a4 : Option Addr} {a5 a6 : Nat} (h : impl_RatMake a a0 a1 a2 a3 a4 a5 a6 w R) : Ret P 110 [.agg #[.bool a, .slice a0 a1 a2], .agg #[.bool a3, .slice a4 a5 a6]] w R := Ret.of_fsem Tryz.func110 rfl (Eq.mp (show _ = fsem P Tryz.f110 (fun k => []) _ R w from by kernel_rfl) h)
def impl_natOf (n : Int) (w : World) (R : Value -> World -> Prop) : Prop :=
 ∀ r wv, New w (.cells ⟨[]⟩ 3 (0, 0)) r wv ->
 ∃ (a0 : Int -> Option Addr -> Nat -> Nat -> World -> Prop) (mu : Int -> Option Addr -> Nat -> Nat -> World -> Nat), a0 n (some ⟨r, 0, none⟩) 0 0 wv /\
 ∀ (a1 : Fr) (a2 : World) (n_1 : Int) (a3 : Option Addr) (a4 a5 : Nat), a0 n_1 a3 a4 a5 a2 ->
 ((decide ((0 : Int) < n_1)) = true ->
 (1000000000 : Int) ≠ 0 /\ ∃ t9 : Int, t9 = Int.tmod n_1 1000000000 /\ ∃ a6 : Int, a6 = IntKind.wrap .i64 t9 /\ ∀ a7 a8, New a2 (.cells ⟨[.int .i64 a6]⟩ 3 (0, 0)) a7 a8 ->
 ∃ a9 aa ab ac, Appends P [29, 29] [.slice a3 a4 a5, (.slice (some ⟨a7, 0, none⟩) 1 1)] (.slice a9 aa ab) a8 ac /\
 (1000000000 : Int) ≠ 0 /\ ∃ ae : Int, ae = IntKind.wrap .u64 (Int.tdiv n_1 1000000000) /\ a0 ae a9 aa ab ac /\ mu ae a9 aa ab ac < mu n_1 a3 a4 a5 a2) /\
 ((decide ((0 : Int) < n_1)) = false ->
 R (.slice a3 a4 a5) a2)
theorem impl_natOf_ret {n : Int} (h : impl_natOf n w R) : Ret P 111 [.int .u64 n] w R := Ret.of_fsem Tryz.func111 rfl (Eq.mp (show _ = fsem P Tryz.f111 (fun k => cond (Nat.beq k 3) [(0, .one (.int .u64)), (3, .one .slice)] ([])) _ R w from by kernel_rfl) h)
def impl_DecOk (d0 : Bool) (a0 : Option Addr) (a1 a2 : Nat) (d2 : Int) (w : World) (R : Value -> World -> Prop) : Prop :=
 ∀ r wv, New w (.cells ⟨[.bool d0, .slice a0 a1 a2, .int .i64 d2]⟩ 36 (0, 0)) r wv ->
 ∃ a3 a4 a5 a6, Loads P 31 ((⟨r, 0, none⟩ : Addr).add 0) (.agg #[.bool a3, .slice a4 a5 a6]) wv /\ Calls P 96 ⟨[.agg #[.bool a3, .slice a4 a5 a6]]⟩ wv fun e a7 =>
 ∃ t5, e = .returned (.bool t5) /\
 (t5 = true ->
 ∃ a8 a9 aa, Loads P 29 (((⟨r, 0, none⟩ : Addr).add 0).add 1) (.slice a8 a9 aa) a7 /\ ((decide ((((a9 : Nat) : Int) : Int) <= 6)) = true ->
 ∃ ab, Loads P 3 ((⟨r, 0, none⟩ : Addr).add 2) (.int .i64 ab) a7 /\ Calls P 182 ⟨[.int .i64 ab]⟩ a7 fun ac ae =>
 ∃ af, ac = .returned (.bool af) /\
 R (.bool af) ae) /\
 ((decide ((((a9 : Nat) : Int) : Int) <= 6)) = false ->
 R (.bool false) a7)) /\
 (t5 = false ->
 (false = true ->
 ∃ ag, Loads P 3 ((⟨r, 0, none⟩ : Addr).add 2) (.int .i64 ag) a7 /\ Calls P 182 ⟨[.int .i64 ag]⟩ a7 fun ah ai =>
 ∃ aj, ah = .returned (.bool aj) /\
 R (.bool aj) ai) /\
 (false = false ->
 R (.bool false) a7))
theorem impl_DecOk_ret {d0 : Bool} {a : Option Addr} {a0 a1 : Nat} {d2 : Int} (h : impl_DecOk d0 a a0 a1 d2 w R) : Ret P 112 [.agg #[.bool d0, .slice a a0 a1, .int .i64 d2]] w R := Ret.of_fsem Tryz.func112 rfl (Eq.mp (show _ = fsem P Tryz.f112 (fun k => []) _ R w from by kernel_rfl) h)
def impl_natTen (k : Int) (w : World) (R : Value -> World -> Prop) : Prop :=
 (9 : Int) ≠ 0 /\ ∃ t6 : Int, t6 = IntKind.wrap .i64 (Int.tdiv k 9) /\ (9 : Int) ≠ 0 /\ ∃ t8 : Int, t8 = IntKind.wrap .i64 (Int.tdiv k 9) /\ ∃ t9 : Int, t9 = IntKind.wrap .i64 (t8 + 1) /\ (0 <= (t6 : Int) /\ (t6 : Int) <= t9 /\ ((8 : Nat) : Int) * t9 <= 281474976710656) /\
 ∀ r wv, New w (.cells ⟨zeroRow (.int .i64 0) (t9.toNat * 1)⟩ 3 (0, 0)) r wv ->
 (9 : Int) ≠ 0 /\ ∃ a0 : Int, a0 = Int.tmod k 9 /\ ∃ (a1 : Int -> Int -> World -> Prop) (mu : Int -> Int -> World -> Nat), a1 1 0 wv /\
 ∀ (a2 : Fr) (a3 : World) (top a4 : Int), a1 top a4 a3 ->
 ((decide ((a4 : Int) < a0)) = true ->
 ∃ a5 : Int, a5 = IntKind.wrap .i64 (top * 10) /\ ∃ a6 : Int, a6 = IntKind.wrap .i64 (a4 + 1) /\ a1 a5 a6 a3 /\ mu a5 a6 a3 < mu top a4 a3) /\
 ((decide ((a4 : Int) < a0)) = false ->
 ∀ a7 a8, New a3 (.cells ⟨[.int .i64 top]⟩ 3 (0, 0)) a7 a8 ->
 ∃ a9 aa ab ac, Appends P [29, 29] [(.slice (some ⟨r, 0, none⟩) t6.toNat t9.toNat), (.slice (some ⟨a7, 0, none⟩) 1 1)] (.slice a9 aa ab) a8 ac /\
 R (.slice a9 aa ab) ac)
theorem impl_natTen_ret {k : Int} (h : impl_natTen k w R) : Ret P 113 [.int .i64 k] w R := Ret.of_fsem Tryz.func113 rfl (Eq.mp (show _ = fsem P Tryz.f113 (fun k => cond (Nat.beq k 5) [(4, .one (.int .i64)), (13, .one (.int .i64))] ([])) _ R w from by kernel_rfl) h)
def impl_intMul (x0 : Bool) (a0 : Option Addr) (a1 a2 : Nat) (y0 : Bool) (a3 : Option Addr) (a4 a5 : Nat) (w : World) (R : Value -> World -> Prop) : Prop :=
 ∀ r wv, New w (.cells ⟨[.bool x0, .slice a0 a1 a2]⟩ 31 (0, 0)) r wv ->
 ∀ a6 a7, New wv (.cells ⟨[.bool y0, .slice a3 a4 a5]⟩ 31 (0, 0)) a6 a7 ->
 ∀ a8 a9, New a7 (.cells ⟨[.bool false, .slice none 0 0]⟩ 31 (0, 0)) a8 a9 ->
 ∃ t6, (∀ wv_3, Ext a9.drew wv_3 -> Loads P 4 ((⟨r, 0, none⟩ : Addr).add 0) (.bool t6) wv_3) /\ ∃ t8, (∀ wv_4, Ext a9.drew wv_4 -> Loads P 4 ((⟨a6, 0, none⟩ : Addr).add 0) (.bool t8) wv_4) /\ ∃ aa ab ac, (∀ wv_5, Ext a9.drew wv_5 -> Loads P 29 ((⟨r, 0, none⟩ : Addr).add 1) (.slice aa ab ac) wv_5) /\ ∃ ae af ag, (∀ wv_6, Ext a9.drew wv_6 -> Loads P 29 ((⟨a6, 0, none⟩ : Addr).add 1) (.slice ae af ag) wv_6) /\ Calls P 109 ⟨[.slice aa ab ac, .slice ae af ag]⟩ a9.drew fun e ah =>
 ∃ ai aj ak, e = .returned (.slice ai aj ak) /\
 Ext a9.drew ah /\ Calls P 170 ⟨[(.bool (!(t6 == t8))), .slice ai aj ak]⟩ ah fun al am =>
 ∃ an ao ap aq, al = .returned (.agg #[.bool an, .slice ao ap aq]) /\
 ∃ wv_9, Stores P 31 ⟨a8, 0, none⟩ (.agg #[.bool an, .slice ao ap aq]) am wv_9 /\
 ∃ r0 ar au av, Loads P 31 ⟨a8, 0, none⟩ (.agg #[.bool r0, .slice ar au av]) wv_9 /\ R (.agg #[.bool r0, .slice ar au av]) wv_9
theorem impl_intMul_ret {x0 : Bool} {a : Option Addr} {a0 a1 : Nat} {y0 : Bool} {a2 : Option Addr} {a3 a4 : Nat} (h : impl_intMul x0 a a0 a1 y0 a2 a3 a4 w R) : Ret P 114 [.agg #[.bool x0, .slice a a0 a1], .agg #[.bool y0, .slice a2 a3 a4]] w R := Ret.of_fsem Tryz.func114 rfl (Eq.mp (show _ = fsem P Tryz.f114 (fun k => []) _ R w from by kernel_rfl) h)
def impl_intCopy (x0 : Bool) (a0 : Option Addr) (a1 a2 : Nat) (w : World) (R : Value -> World -> Prop) : Prop :=
 ∀ r wv, New w (.cells ⟨[.bool x0, .slice a0 a1 a2]⟩ 31 (0, 0)) r wv ->
 ∀ a3 a4, New wv (.cells ⟨[.bool false, .slice none 0 0]⟩ 31 (0, 0)) a3 a4 ->
 ∃ t4, (∀ wv_2, Ext a4.drew wv_2 -> Loads P 4 ((⟨r, 0, none⟩ : Addr).add 0) (.bool t4) wv_2) /\ ∃ a5 a6 a7, (∀ wv_3, Ext a4.drew wv_3 -> Loads P 29 ((⟨r, 0, none⟩ : Addr).add 1) (.slice a5 a6 a7) wv_3) /\ Calls P 183 ⟨[.slice a5 a6 a7]⟩ a4.drew fun e a8 =>
 ∃ a9 aa ab, e = .returned (.slice a9 aa ab) /\
 Ext a4.drew a8 /\ ∃ wv_5, Stores P 31 ⟨a3, 0, none⟩ (.agg #[.bool t4, .slice a9 aa ab]) a8 wv_5 /\
 ∃ r0 ac ae af, Loads P 31 ⟨a3, 0, none⟩ (.agg #[.bool r0, .slice ac ae af]) wv_5 /\ R (.agg #[.bool r0, .slice ac ae af]) wv_5
theorem impl_intCopy_ret {x0 : Bool} {a : Option Addr} {a0 a1 : Nat} (h : impl_intCopy x0 a a0 a1 w R) : Ret P 115 [.agg #[.bool x0, .slice a a0 a1]] w R := Ret.of_fsem Tryz.func115 rfl (Eq.mp (show _ = fsem P Tryz.f115 (fun k => []) _ R w from by kernel_rfl) h)
abbrev impl_TextDec_j3_z0 (q : Nat) (x : World) (R : Value -> World -> Prop) : Prop :=
 ∃ y, Stores P 36 ⟨q, 0, none⟩ (.agg #[.bool false, .slice none 0 0, .int .i64 0]) x y /\ ∃ r0_1 aq ar au r2_1, Loads P 36 ⟨q, 0, none⟩ (.agg #[.bool r0_1, .slice aq ar au, .int .i64 r2_1]) y /\ R (.tuple #[.agg #[.bool r0_1, .slice aq ar au, .int .i64 r2_1], .bool false]) y
def impl_TextDec_j3 (s : ByteArray) (r : Nat) (neg : Bool) (a0 : Option Addr) (a1 a2 : Nat) (scale : Int) (a3 : World) (R : Value -> World -> Prop) : Prop :=
 Calls P 92 ⟨[.slice a0 a1 a2, (.string (S []))]⟩ a3 fun a4 a5 =>
 ∃ a6, a4 = .returned (.string a6) /\
 ∃ (a7 : ByteArray -> World -> Prop) (mu : ByteArray -> World -> Nat), a7 a6 a5 /\
 ∀ (a8 : Fr) (a9 : World) (whole : ByteArray), a7 whole a9 ->
 ((decide ((1 : Int) < ((whole.size : Nat) : Int))) = true ->
 0 <= (0 : Int) /\ ∃ aa : UInt8, whole[0]? = some aa /\ ((decide ((((aa.toNat : Nat) : Int) : Int) = 48)) = true ->
 (0 <= (1 : Int) /\ (1 : Int) <= (whole.size : Nat)) /\ a7 (whole.extract 1 whole.size) a9 /\ mu (whole.extract 1 whole.size) a9 < mu whole a9) /\
 ((decide ((((aa.toNat : Nat) : Int) : Int) = 48)) = false ->
 Calls P 184 ⟨[.string whole]⟩ a9 fun ab ac =>
 ∃ ae af ag ah, ab = .returned (.tuple #[.slice ae af ag, .bool ah]) /\
 Calls P 170 ⟨[.bool neg, .slice ae af ag]⟩ ac fun ai aj =>
 ∃ ak al am an, ai = .returned (.agg #[.bool ak, .slice al am an]) /\
 ∀ ao ap, New aj (.cells ⟨[.bool false, .slice none 0 0, .int .i64 0]⟩ 36 (0, 0)) ao ap ->
 ∃ wv_8, Stores P 36 ⟨ao, 0, none⟩ (.agg #[.bool ak, .slice al am an, .int .i64 scale]) ap wv_8 /\
 ((!ah) = true ->
 (true = true ->
 impl_TextDec_j3_z0 r wv_8 R) /\
 (true = false ->
 ∃ av aw ax ay az, Loads P 36 ⟨ao, 0, none⟩ (.agg #[.bool av, .slice aw ax ay, .int .i64 az]) wv_8 /\ ∃ wv_10, Stores P 36 ⟨r, 0, none⟩ (.agg #[.bool av, .slice aw ax ay, .int .i64 az]) wv_8 wv_10 /\
 ∃ r0_2 b0 b1 b2 r2_2, Loads P 36 ⟨r, 0, none⟩ (.agg #[.bool r0_2, .slice b0 b1 b2, .int .i64 r2_2]) wv_10 /\ R (.tuple #[.agg #[.bool r0_2, .slice b0 b1 b2, .int .i64 r2_2], .bool true]) wv_10)) /\
 ((!ah) = false ->
 ∃ b3 b4 b5 b6 b7, Loads P 36 ⟨ao, 0, none⟩ (.agg #[.bool b3, .slice b4 b5 b6, .int .i64 b7]) wv_8 /\ Calls P 119 ⟨[.agg #[.bool b3, .slice b4 b5 b6, .int .i64 b7]]⟩ wv_8 fun b8 b9 =>
 ∃ ba, b8 = .returned (.string ba) /\
 ((decide (ba ≠ s)) = true ->
 impl_TextDec_j3_z0 r b9 R) /\
 ((decide (ba ≠ s)) = false ->
 ∃ be bf bg bh bi, Loads P 36 ⟨ao, 0, none⟩ (.agg #[.bool be, .slice bf bg bh, .int .i64 bi]) b9 /\ ∃ wv_13, Stores P 36 ⟨r, 0, none⟩ (.agg #[.bool be, .slice bf bg bh, .int .i64 bi]) b9 wv_13 /\
 ∃ r0_4 bj bk bl r2_4, Loads P 36 ⟨r, 0, none⟩ (.agg #[.bool r0_4, .slice bj bk bl, .int .i64 r2_4]) wv_13 /\ R (.tuple #[.agg #[.bool r0_4, .slice bj bk bl, .int .i64 r2_4], .bool true]) wv_13)))) /\
 ((decide ((1 : Int) < ((whole.size : Nat) : Int))) = false ->
 (false = true ->
 (0 <= (1 : Int) /\ (1 : Int) <= (whole.size : Nat)) /\ a7 (whole.extract 1 whole.size) a9 /\ mu (whole.extract 1 whole.size) a9 < mu whole a9) /\
 (false = false ->
 Calls P 184 ⟨[.string whole]⟩ a9 fun bm bn =>
 ∃ bo bp bq br, bm = .returned (.tuple #[.slice bo bp bq, .bool br]) /\
 Calls P 170 ⟨[.bool neg, .slice bo bp bq]⟩ bn fun bs bt =>
 ∃ bu bv bw bx, bs = .returned (.agg #[.bool bu, .slice bv bw bx]) /\
 ∀ bz c0, New bt (.cells ⟨[.bool false, .slice none 0 0, .int .i64 0]⟩ 36 (0, 0)) bz c0 ->
 ∃ wv_17, Stores P 36 ⟨bz, 0, none⟩ (.agg #[.bool bu, .slice bv bw bx, .int .i64 scale]) c0 wv_17 /\
 ((!br) = true ->
 (true = true ->
 impl_TextDec_j3_z0 r wv_17 R) /\
 (true = false ->
 ∃ c4 c5 c6 c7 c8, Loads P 36 ⟨bz, 0, none⟩ (.agg #[.bool c4, .slice c5 c6 c7, .int .i64 c8]) wv_17 /\ ∃ wv_19, Stores P 36 ⟨r, 0, none⟩ (.agg #[.bool c4, .slice c5 c6 c7, .int .i64 c8]) wv_17 wv_19 /\
 ∃ r0_6 c9 ca cb r2_6, Loads P 36 ⟨r, 0, none⟩ (.agg #[.bool r0_6, .slice c9 ca cb, .int .i64 r2_6]) wv_19 /\ R (.tuple #[.agg #[.bool r0_6, .slice c9 ca cb, .int .i64 r2_6], .bool true]) wv_19)) /\
 ((!br) = false ->
 ∃ cc cd ce cf cg, Loads P 36 ⟨bz, 0, none⟩ (.agg #[.bool cc, .slice cd ce cf, .int .i64 cg]) wv_17 /\ Calls P 119 ⟨[.agg #[.bool cc, .slice cd ce cf, .int .i64 cg]]⟩ wv_17 fun ch ci =>
 ∃ cj, ch = .returned (.string cj) /\
 ((decide (cj ≠ s)) = true ->
 impl_TextDec_j3_z0 r ci R) /\
 ((decide (cj ≠ s)) = false ->
 ∃ cn co cp cq cr, Loads P 36 ⟨bz, 0, none⟩ (.agg #[.bool cn, .slice co cp cq, .int .i64 cr]) ci /\ ∃ wv_22, Stores P 36 ⟨r, 0, none⟩ (.agg #[.bool cn, .slice co cp cq, .int .i64 cr]) ci wv_22 /\
 ∃ r0_8 cs ct cu r2_8, Loads P 36 ⟨r, 0, none⟩ (.agg #[.bool r0_8, .slice cs ct cu, .int .i64 r2_8]) wv_22 /\ R (.tuple #[.agg #[.bool r0_8, .slice cs ct cu, .int .i64 r2_8], .bool true]) wv_22))))
def impl_TextDec_j2 (s : ByteArray) (r : Nat) (neg : Bool) (a0 : Option Addr) (a1 a2 : Nat) (a3 : World) (R : Value -> World -> Prop) : Prop :=
 ((decide ((((a1 : Nat) : Int) : Int) = 2)) = true ->
 (0 <= (1 : Int) /\ (1 : Int) < (a1 : Nat)) /\ ptrS a0 fun ad => ∃ a4, Loads P 9 (ad.add (1 * 1)) (.string a4) a3 /\ impl_TextDec_j3 s r neg a0 a1 a2 ((a4.size : Nat) : Int) a3 R) /\
 ((decide ((((a1 : Nat) : Int) : Int) = 2)) = false ->
 impl_TextDec_j3 s r neg a0 a1 a2 0 a3 R)
def impl_TextDec_j1 (s : ByteArray) (r : Nat) (neg : Bool) (digits : ByteArray) (a0 : World) (R : Value -> World -> Prop) : Prop :=
 Calls P 75 ⟨[.string digits, (.string (S [46]))]⟩ a0 fun e a1 =>
 ∃ a2 a3 a4, e = .returned (.slice a2 a3 a4) /\
 ((decide ((2 : Int) < ((a3 : Nat) : Int))) = true ->
 (true = true ->
 ∃ wv_2, Stores P 36 ⟨r, 0, none⟩ (.agg #[.bool false, .slice none 0 0, .int .i64 0]) a1 wv_2 /\
 ∃ r0 a5 a6 a7 r2, Loads P 36 ⟨r, 0, none⟩ (.agg #[.bool r0, .slice a5 a6 a7, .int .i64 r2]) wv_2 /\ R (.tuple #[.agg #[.bool r0, .slice a5 a6 a7, .int .i64 r2], .bool false]) wv_2) /\
 (true = false ->
 impl_TextDec_j2 s r neg a2 a3 a4 a1 R)) /\
 ((decide ((2 : Int) < ((a3 : Nat) : Int))) = false ->
 ((decide ((100 : Int) < ((digits.size : Nat) : Int))) = true ->
 ∃ wv_23, Stores P 36 ⟨r, 0, none⟩ (.agg #[.bool false, .slice none 0 0, .int .i64 0]) a1 wv_23 /\
 ∃ r0_9 a8 a9 aa r2_9, Loads P 36 ⟨r, 0, none⟩ (.agg #[.bool r0_9, .slice a8 a9 aa, .int .i64 r2_9]) wv_23 /\ R (.tuple #[.agg #[.bool r0_9, .slice a8 a9 aa, .int .i64 r2_9], .bool false]) wv_23) /\
 ((decide ((100 : Int) < ((digits.size : Nat) : Int))) = false ->
 impl_TextDec_j2 s r neg a2 a3 a4 a1 R))
def impl_TextDec_j0 (s : ByteArray) (r : Nat) (neg : Bool) (W : World) (R : Value -> World -> Prop) : Prop :=
 (neg = true ->
 (0 <= (1 : Int) /\ (1 : Int) <= (s.size : Nat)) /\ impl_TextDec_j1 s r neg (s.extract 1 s.size) W R) /\
 (neg = false ->
 impl_TextDec_j1 s r neg s W R)
def impl_TextDec (s : ByteArray) (w : World) (R : Value -> World -> Prop) : Prop :=
 ∀ r wv, New w (.cells ⟨[.bool false, .slice none 0 0, .int .i64 0]⟩ 36 (0, 0)) r wv ->
 ((decide (s ≠ (S []))) = true ->
 0 <= (0 : Int) /\ ∃ b : UInt8, s[0]? = some b /\ impl_TextDec_j0 s r (decide ((((b.toNat : Nat) : Int) : Int) = 45)) wv R) /\
 ((decide (s ≠ (S []))) = false ->
 impl_TextDec_j0 s r false wv R)
theorem impl_TextDec_ret {s : ByteArray} (h : impl_TextDec s w R) : Ret P 116 [.string s] w R := Ret.of_fsem Tryz.func116 rfl (Eq.mp (show _ = fsem P Tryz.f116 (fun k => cond (Nat.beq k 13) [(8, .one .str)] ([])) _ R w from by kernel_rfl) h)
def impl_lowest_j0 (r a0 : Nat) (scale_2 : Int) (W : World) (R : Value -> World -> Prop) : Prop :=
 ∃ a1 a2 a3 a4, Loads P 31 ⟨r, 0, none⟩ (.agg #[.bool a1, .slice a2 a3 a4]) W /\ ∃ wv_4, Stores P 36 ⟨a0, 0, none⟩ (.agg #[.bool a1, .slice a2 a3 a4, .int .i64 scale_2]) W wv_4 /\
 ∃ r0 a5 a6 a7 r2, Loads P 36 ⟨a0, 0, none⟩ (.agg #[.bool r0, .slice a5 a6 a7, .int .i64 r2]) wv_4 /\ R (.agg #[.bool r0, .slice a5 a6 a7, .int .i64 r2]) wv_4
def impl_lowest (num0 : Bool) (a0 : Option Addr) (a1 a2 : Nat) (scale : Int) (w : World) (R : Value -> World -> Prop) : Prop :=
 ∀ r wv, New w (.cells ⟨[.bool num0, .slice a0 a1 a2]⟩ 31 (0, 0)) r wv ->
 ∀ a3 a4, New wv (.cells ⟨[.bool false, .slice none 0 0, .int .i64 0]⟩ 36 (0, 0)) a3 a4 ->
 ∃ (a5 : Int -> World -> Prop) (mu : Int -> World -> Nat), a5 scale a4 /\
 ∀ (a6 : Fr) (a7 : World) (scale_1 : Int), a5 scale_1 a7 ->
 ((decide ((0 : Int) < scale_1)) = true ->
 ∃ a8 a9 aa, Loads P 29 ((⟨r, 0, none⟩ : Addr).add 1) (.slice a8 a9 aa) a7 /\ Calls P 185 ⟨[.slice a8 a9 aa, .int .i64 10]⟩ a7 fun e ab =>
 ∃ ac ae af ag, e = .returned (.tuple #[.slice ac ae af, .int .i64 ag]) /\
 ((decide ((0 : Int) < ag)) = true ->
 impl_lowest_j0 r a3 scale_1 ab R) /\
 ((decide ((0 : Int) < ag)) = false ->
 ∃ ah, Loads P 4 ((⟨r, 0, none⟩ : Addr).add 0) (.bool ah) ab /\ Calls P 170 ⟨[.bool ah, .slice ac ae af]⟩ ab fun ai aj =>
 ∃ ak al am an, ai = .returned (.agg #[.bool ak, .slice al am an]) /\
 ∃ wv_6, Stores P 31 ⟨r, 0, none⟩ (.agg #[.bool ak, .slice al am an]) aj wv_6 /\
 ∃ ao : Int, ao = IntKind.wrap .i64 (scale_1 - 1) /\ a5 ao wv_6 /\ mu ao wv_6 < mu scale_1 a7)) /\
 ((decide ((0 : Int) < scale_1)) = false ->
 impl_lowest_j0 r a3 scale_1 a7 R)
theorem impl_lowest_ret {a : Bool} {a0 : Option Addr} {a1 a2 : Nat} {a3 : Int} (h : impl_lowest a a0 a1 a2 a3 w R) : Ret P 117 [.agg #[.bool a, .slice a0 a1 a2], .int .i64 a3] w R := Ret.of_fsem Tryz.func117 rfl (Eq.mp (show _ = fsem P Tryz.f117 (fun k => cond (Nat.beq k 2) [(1, .one (.int .i64))] ([])) _ R w from by kernel_rfl) h)
def impl_DecMul_j0 (r a0 a1 : Nat) (W : World) (R : Value -> World -> Prop) : Prop :=
 ∃ a2 a3 a4 a5, (∀ wv_5, Ext W.drew wv_5 -> Loads P 31 ((⟨r, 0, none⟩ : Addr).add 0) (.agg #[.bool a2, .slice a3 a4 a5]) wv_5) /\ ∃ a6 a7 a8 a9, (∀ wv_6, Ext W.drew wv_6 -> Loads P 31 ((⟨a0, 0, none⟩ : Addr).add 0) (.agg #[.bool a6, .slice a7 a8 a9]) wv_6) /\ Calls P 114 ⟨[.agg #[.bool a2, .slice a3 a4 a5], .agg #[.bool a6, .slice a7 a8 a9]]⟩ W.drew fun aa ab =>
 ∃ ac ae af ag, aa = .returned (.agg #[.bool ac, .slice ae af ag]) /\
 Ext W.drew ab /\ ∃ ah, (∀ wv_8, Ext W.drew wv_8 -> Loads P 3 ((⟨r, 0, none⟩ : Addr).add 2) (.int .i64 ah) wv_8) /\ ∃ ai, (∀ wv_9, Ext W.drew wv_9 -> Loads P 3 ((⟨a0, 0, none⟩ : Addr).add 2) (.int .i64 ai) wv_9) /\ ∃ aj : Int, aj = IntKind.wrap .i64 (ah + ai) /\ Calls P 186 ⟨[.agg #[.bool ac, .slice ae af ag], .int .i64 aj]⟩ ab fun ak al =>
 ∃ am an ao ap aq ar, ak = .returned (.tuple #[.agg #[.bool am, .slice an ao ap, .int .i64 aq], .bool ar]) /\
 ∃ wv_11, Stores P 36 ⟨a1, 0, none⟩ (.agg #[.bool am, .slice an ao ap, .int .i64 aq]) al wv_11 /\
 ∃ r0_1 au av aw r2_1, Loads P 36 ⟨a1, 0, none⟩ (.agg #[.bool r0_1, .slice au av aw, .int .i64 r2_1]) wv_11 /\ R (.tuple #[.agg #[.bool r0_1, .slice au av aw, .int .i64 r2_1], .bool ar]) wv_11
def impl_DecMul (d0 : Bool) (a0 : Option Addr) (a1 a2 : Nat) (d2 : Int) (e0 : Bool) (a3 : Option Addr) (a4 a5 : Nat) (e2 : Int) (w : World) (R : Value -> World -> Prop) : Prop :=
 ∀ r wv, New w (.cells ⟨[.bool d0, .slice a0 a1 a2, .int .i64 d2]⟩ 36 (0, 0)) r wv ->
 ∀ a6 a7, New wv (.cells ⟨[.bool e0, .slice a3 a4 a5, .int .i64 e2]⟩ 36 (0, 0)) a6 a7 ->
 ∀ a8 a9, New a7 (.cells ⟨[.bool false, .slice none 0 0, .int .i64 0]⟩ 36 (0, 0)) a8 a9 ->
 ∃ aa ab ac ae af, Loads P 36 ⟨r, 0, none⟩ (.agg #[.bool aa, .slice ab ac ae, .int .i64 af]) a9 /\ Calls P 112 ⟨[.agg #[.bool aa, .slice ab ac ae, .int .i64 af]]⟩ a9 fun e ag =>
 ∃ t7, e = .returned (.bool t7) /\
 ((!t7) = true ->
 (true = true ->
 ∃ wv_4, Stores P 36 ⟨a8, 0, none⟩ (.agg #[.bool false, .slice none 0 0, .int .i64 0]) ag wv_4 /\
 ∃ r0 ah ai aj r2, Loads P 36 ⟨a8, 0, none⟩ (.agg #[.bool r0, .slice ah ai aj, .int .i64 r2]) wv_4 /\ R (.tuple #[.agg #[.bool r0, .slice ah ai aj, .int .i64 r2], .bool false]) wv_4) /\
 (true = false ->
 impl_DecMul_j0 r a6 a8 ag R)) /\
 ((!t7) = false ->
 ∃ ak al am an ao, Loads P 36 ⟨a6, 0, none⟩ (.agg #[.bool ak, .slice al am an, .int .i64 ao]) ag /\ Calls P 112 ⟨[.agg #[.bool ak, .slice al am an, .int .i64 ao]]⟩ ag fun ap aq =>
 ∃ ar, ap = .returned (.bool ar) /\
 ((!ar) = true ->
 ∃ wv_13, Stores P 36 ⟨a8, 0, none⟩ (.agg #[.bool false, .slice none 0 0, .int .i64 0]) aq wv_13 /\
 ∃ r0_2 au av aw r2_2, Loads P 36 ⟨a8, 0, none⟩ (.agg #[.bool r0_2, .slice au av aw, .int .i64 r2_2]) wv_13 /\ R (.tuple #[.agg #[.bool r0_2, .slice au av aw, .int .i64 r2_2], .bool false]) wv_13) /\
 ((!ar) = false ->
 impl_DecMul_j0 r a6 a8 aq R))
theorem impl_DecMul_ret {d0 : Bool} {a : Option Addr} {a0 a1 : Nat} {d2 : Int} {e0 : Bool} {a2 : Option Addr} {a3 a4 : Nat} {e2 : Int} (h : impl_DecMul d0 a a0 a1 d2 e0 a2 a3 a4 e2 w R) : Ret P 118 [.agg #[.bool d0, .slice a a0 a1, .int .i64 d2], .agg #[.bool e0, .slice a2 a3 a4, .int .i64 e2]] w R := Ret.of_fsem Tryz.func118 rfl (Eq.mp (show _ = fsem P Tryz.f118 (fun k => []) _ R w from by kernel_rfl) h)
def impl_DecText_j1 (text_1 : ByteArray) (a0 : World) (R : Value -> World -> Prop) : Prop :=
 R (.string text_1) a0
def impl_DecText_j0 (r : Nat) (text : ByteArray) (W : World) (R : Value -> World -> Prop) : Prop :=
 ∃ a0, Loads P 4 (((⟨r, 0, none⟩ : Addr).add 0).add 0) (.bool a0) W /\ (a0 = true ->
 (S [45]).size + text.size <= 9223372036854775807 /\ ∃ a1 : ByteArray, a1 = (S [45]) ++ text /\ impl_DecText_j1 a1 W R) /\
 (a0 = false ->
 impl_DecText_j1 text W R)
def impl_DecText (d0 : Bool) (a0 : Option Addr) (a1 a2 : Nat) (d2 : Int) (w : World) (R : Value -> World -> Prop) : Prop :=
 ∀ r wv, New w (.cells ⟨[.bool d0, .slice a0 a1 a2, .int .i64 d2]⟩ 36 (0, 0)) r wv ->
 ∃ a3 a4 a5 a6 a7, Loads P 36 ⟨r, 0, none⟩ (.agg #[.bool a3, .slice a4 a5 a6, .int .i64 a7]) wv /\ Calls P 112 ⟨[.agg #[.bool a3, .slice a4 a5 a6, .int .i64 a7]]⟩ wv fun e a8 =>
 ∃ t6, e = .returned (.bool t6) /\
 ((!t6) = true ->
 R (.string (S [])) a8) /\
 ((!t6) = false ->
 ∃ a9 aa ab, (∀ wv_2, Ext a8.drew wv_2 -> Loads P 29 (((⟨r, 0, none⟩ : Addr).add 0).add 1) (.slice a9 aa ab) wv_2) /\ Calls P 188 ⟨[.slice a9 aa ab]⟩ a8.drew fun ac ae =>
 ∃ af, ac = .returned (.string af) /\
 Ext a8.drew ae /\ ∃ ag, (∀ wv_4, Ext a8.drew wv_4 -> Loads P 3 ((⟨r, 0, none⟩ : Addr).add 2) (.int .i64 ag) wv_4) /\ ∃ ah : Int, ah = IntKind.wrap .i64 (ag + 1) /\ Calls P 187 ⟨[.string af, .int .i64 ah]⟩ ae fun ai aj =>
 ∃ ak, ai = .returned (.string ak) /\
 ∃ al, Loads P 3 ((⟨r, 0, none⟩ : Addr).add 2) (.int .i64 al) aj /\ ((decide ((0 : Int) < al)) = true ->
 ∃ am, Loads P 3 ((⟨r, 0, none⟩ : Addr).add 2) (.int .i64 am) aj /\ ∃ an : Int, an = IntKind.wrap .i64 (((ak.size : Nat) : Int) - am) /\ (0 <= (an : Int) /\ (an : Int) <= (ak.size : Nat)) /\ (ak.extract 0 an.toNat).size + (S [46]).size <= 9223372036854775807 /\ ∃ ao : ByteArray, ao = (ak.extract 0 an.toNat) ++ (S [46]) /\ (0 <= (an : Int) /\ (an : Int) <= (ak.size : Nat)) /\ ao.size + (ak.extract an.toNat ak.size).size <= 9223372036854775807 /\ ∃ ap : ByteArray, ap = ao ++ (ak.extract an.toNat ak.size) /\ impl_DecText_j0 r ap aj.drew R) /\
 ((decide ((0 : Int) < al)) = false ->
 impl_DecText_j0 r ak aj R))
theorem impl_DecText_ret {d0 : Bool} {a : Option Addr} {a0 a1 : Nat} {d2 : Int} (h : impl_DecText d0 a a0 a1 d2 w R) : Ret P 119 [.agg #[.bool d0, .slice a a0 a1, .int .i64 d2]] w R := Ret.of_fsem Tryz.func119 rfl (Eq.mp (show _ = fsem P Tryz.f119 (fun k => []) _ R w from by kernel_rfl) h)
def impl_DecLow_j0 (r a0 : Nat) (a1 : World) (a2 : Int -> World -> Prop) (mu : Int -> World -> Nat) (scale : Int) (W : World) (R : Value -> World -> Prop) : Prop :=
 ∃ a3 a4 a5 a6 a7, Loads P 36 ⟨r, 0, none⟩ (.agg #[.bool a3, .slice a4 a5 a6, .int .i64 a7]) W /\ Calls P 189 ⟨[.agg #[.bool a3, .slice a4 a5 a6, .int .i64 a7], .int .i64 scale]⟩ W fun e a8 =>
 ∃ a9 aa ab ac ae af, e = .returned (.tuple #[.agg #[.bool a9, .slice aa ab ac, .int .i64 ae], .bool af]) /\
 ∀ ag ah, New a8 (.cells ⟨[.bool false, .slice none 0 0, .int .i64 0]⟩ 36 (0, 0)) ag ah ->
 ∃ wv_5, Stores P 36 ⟨ag, 0, none⟩ (.agg #[.bool a9, .slice aa ab ac, .int .i64 ae]) ah wv_5 /\
 (af = true ->
 ∃ ai aj ak al am, Loads P 36 ⟨ag, 0, none⟩ (.agg #[.bool ai, .slice aj ak al, .int .i64 am]) wv_5 /\ ∃ wv_6, Stores P 36 ⟨a0, 0, none⟩ (.agg #[.bool ai, .slice aj ak al, .int .i64 am]) wv_5 wv_6 /\
 ∃ r0 an ao ap r2, Loads P 36 ⟨a0, 0, none⟩ (.agg #[.bool r0, .slice an ao ap, .int .i64 r2]) wv_6 /\ R (.agg #[.bool r0, .slice an ao ap, .int .i64 r2]) wv_6) /\
 (af = false ->
 ∃ aq : Int, aq = IntKind.wrap .i64 (scale + 1) /\ a2 aq wv_5 /\ mu aq wv_5 < mu scale a1)
def impl_DecLow (d0 : Bool) (a0 : Option Addr) (a1 a2 : Nat) (d2 : Int) (w : World) (R : Value -> World -> Prop) : Prop :=
 ∀ r wv, New w (.cells ⟨[.bool d0, .slice a0 a1 a2, .int .i64 d2]⟩ 36 (0, 0)) r wv ->
 ∀ a3 a4, New wv (.cells ⟨[.bool false, .slice none 0 0, .int .i64 0]⟩ 36 (0, 0)) a3 a4 ->
 ∃ (a5 : Int -> World -> Prop) (mu : Int -> World -> Nat), a5 0 a4 /\
 ∀ (a6 : Fr) (a7 : World) (scale : Int), a5 scale a7 ->
 ∃ t8, Loads P 3 ((⟨r, 0, none⟩ : Addr).add 2) (.int .i64 t8) a7 /\ ((decide ((scale : Int) <= t8)) = true ->
 ((decide ((scale : Int) <= 30)) = true ->
 impl_DecLow_j0 r a3 a7 a5 mu scale a7 R) /\
 ((decide ((scale : Int) <= 30)) = false ->
 ∃ wv_7, Stores P 36 ⟨a3, 0, none⟩ (.agg #[.bool false, .slice none 0 0, .int .i64 0]) a7 wv_7 /\
 ∃ r0_1 a8 a9 aa r2_1, Loads P 36 ⟨a3, 0, none⟩ (.agg #[.bool r0_1, .slice a8 a9 aa, .int .i64 r2_1]) wv_7 /\ R (.agg #[.bool r0_1, .slice a8 a9 aa, .int .i64 r2_1]) wv_7)) /\
 ((decide ((scale : Int) <= t8)) = false ->
 (false = true ->
 impl_DecLow_j0 r a3 a7 a5 mu scale a7 R) /\
 (false = false ->
 ∃ wv_8, Stores P 36 ⟨a3, 0, none⟩ (.agg #[.bool false, .slice none 0 0, .int .i64 0]) a7 wv_8 /\
 ∃ r0_2 ab ac ae r2_2, Loads P 36 ⟨a3, 0, none⟩ (.agg #[.bool r0_2, .slice ab ac ae, .int .i64 r2_2]) wv_8 /\ R (.agg #[.bool r0_2, .slice ab ac ae, .int .i64 r2_2]) wv_8))
theorem impl_DecLow_ret {d0 : Bool} {a : Option Addr} {a0 a1 : Nat} {d2 : Int} (h : impl_DecLow d0 a a0 a1 d2 w R) : Ret P 120 [.agg #[.bool d0, .slice a a0 a1, .int .i64 d2]] w R := Ret.of_fsem Tryz.func120 rfl (Eq.mp (show _ = fsem P Tryz.f120 (fun k => cond (Nat.beq k 3) [(3, .one (.int .i64))] ([])) _ R w from by kernel_rfl) h)
def spec_RatOk (r0 : Bool) (a0 : Option Addr) (a1 a2 : Nat) (a3 : Option Addr) (a4 a5 : Nat) (w : World) (R : Value -> World -> Prop) : Prop :=
 ∀ r wv, New w (.cells ⟨[.bool r0, .slice a0 a1 a2, .slice a3 a4 a5]⟩ 60 (0, 0)) r wv ->
 ∃ a6 a7 a8 a9, Loads P 31 ((⟨r, 0, none⟩ : Addr).add 0) (.agg #[.bool a6, .slice a7 a8 a9]) wv /\ Calls P 190 ⟨[.agg #[.bool a6, .slice a7 a8 a9]]⟩ wv fun e aa =>
 ∃ t5, e = .returned (.bool t5) /\
 ((!t5) = true ->
 (true = true ->
 (true = true ->
 (true = true ->
 (true = true ->
 R (.bool false) aa) /\
 (true = false ->
 ∃ ab ac ae, Loads P 29 (((⟨r, 0, none⟩ : Addr).add 0).add 1) (.slice ab ac ae) aa /\ ∃ af ag ah, Loads P 29 ((⟨r, 0, none⟩ : Addr).add 2) (.slice af ag ah) aa /\ Calls P 193 ⟨[.slice ab ac ae, .slice af ag ah]⟩ aa fun ai aj =>
 ∃ ak al am, ai = .returned (.slice ak al am) /\
 ∀ an ao, New aj (.cells ⟨[.int .i64 1]⟩ 3 (0, 0)) an ao ->
 Calls P 192 ⟨[.slice ak al am, (.slice (some ⟨an, 0, none⟩) 1 1)]⟩ ao fun ap aq =>
 ∃ ar, ap = .returned (.int .i64 ar) /\
 R (.bool (decide ((ar : Int) = 0))) aq)) /\
 (true = false ->
 ∃ au av aw, Loads P 29 (((⟨r, 0, none⟩ : Addr).add 0).add 1) (.slice au av aw) aa /\ ((decide ((18 : Int) < ((av : Nat) : Int))) = true ->
 R (.bool false) aa) /\
 ((decide ((18 : Int) < ((av : Nat) : Int))) = false ->
 ∃ ax ay az, Loads P 29 (((⟨r, 0, none⟩ : Addr).add 0).add 1) (.slice ax ay az) aa /\ ∃ b0 b1 b2, Loads P 29 ((⟨r, 0, none⟩ : Addr).add 2) (.slice b0 b1 b2) aa /\ Calls P 193 ⟨[.slice ax ay az, .slice b0 b1 b2]⟩ aa fun b3 b4 =>
 ∃ b5 b6 b7, b3 = .returned (.slice b5 b6 b7) /\
 ∀ b8 b9, New b4 (.cells ⟨[.int .i64 1]⟩ 3 (0, 0)) b8 b9 ->
 Calls P 192 ⟨[.slice b5 b6 b7, (.slice (some ⟨b8, 0, none⟩) 1 1)]⟩ b9 fun ba bb =>
 ∃ bc, ba = .returned (.int .i64 bc) /\
 R (.bool (decide ((bc : Int) = 0))) bb))) /\
 (true = false ->
 ∃ bd be bf, Loads P 29 ((⟨r, 0, none⟩ : Addr).add 2) (.slice bd be bf) aa /\ ((decide ((18 : Int) < ((be : Nat) : Int))) = true ->
 (true = true ->
 R (.bool false) aa) /\
 (true = false ->
 ∃ bg bh bi, Loads P 29 (((⟨r, 0, none⟩ : Addr).add 0).add 1) (.slice bg bh bi) aa /\ ∃ bj bk bl, Loads P 29 ((⟨r, 0, none⟩ : Addr).add 2) (.slice bj bk bl) aa /\ Calls P 193 ⟨[.slice bg bh bi, .slice bj bk bl]⟩ aa fun bm bn =>
 ∃ bo bp bq, bm = .returned (.slice bo bp bq) /\
 ∀ br bs, New bn (.cells ⟨[.int .i64 1]⟩ 3 (0, 0)) br bs ->
 Calls P 192 ⟨[.slice bo bp bq, (.slice (some ⟨br, 0, none⟩) 1 1)]⟩ bs fun bt bu =>
 ∃ bv, bt = .returned (.int .i64 bv) /\
 R (.bool (decide ((bv : Int) = 0))) bu)) /\
 ((decide ((18 : Int) < ((be : Nat) : Int))) = false ->
 ∃ bw bx bz, Loads P 29 (((⟨r, 0, none⟩ : Addr).add 0).add 1) (.slice bw bx bz) aa /\ ((decide ((18 : Int) < ((bx : Nat) : Int))) = true ->
 R (.bool false) aa) /\
 ((decide ((18 : Int) < ((bx : Nat) : Int))) = false ->
 ∃ c0 c1 c2, Loads P 29 (((⟨r, 0, none⟩ : Addr).add 0).add 1) (.slice c0 c1 c2) aa /\ ∃ c3 c4 c5, Loads P 29 ((⟨r, 0, none⟩ : Addr).add 2) (.slice c3 c4 c5) aa /\ Calls P 193 ⟨[.slice c0 c1 c2, .slice c3 c4 c5]⟩ aa fun c6 c7 =>
 ∃ c8 c9 ca, c6 = .returned (.slice c8 c9 ca) /\
 ∀ cb cc, New c7 (.cells ⟨[.int .i64 1]⟩ 3 (0, 0)) cb cc ->
 Calls P 192 ⟨[.slice c8 c9 ca, (.slice (some ⟨cb, 0, none⟩) 1 1)]⟩ cc fun cd ce =>
 ∃ cf, cd = .returned (.int .i64 cf) /\
 R (.bool (decide ((cf : Int) = 0))) ce)))) /\
 (true = false ->
 ∃ cg ch ci, Loads P 29 ((⟨r, 0, none⟩ : Addr).add 2) (.slice cg ch ci) aa /\ ((decide ((((ch : Nat) : Int) : Int) = 0)) = true ->
 (true = true ->
 (true = true ->
 R (.bool false) aa) /\
 (true = false ->
 ∃ cj ck cl, Loads P 29 (((⟨r, 0, none⟩ : Addr).add 0).add 1) (.slice cj ck cl) aa /\ ∃ cm cn co, Loads P 29 ((⟨r, 0, none⟩ : Addr).add 2) (.slice cm cn co) aa /\ Calls P 193 ⟨[.slice cj ck cl, .slice cm cn co]⟩ aa fun cp cq =>
 ∃ cr cs ct, cp = .returned (.slice cr cs ct) /\
 ∀ cu cv, New cq (.cells ⟨[.int .i64 1]⟩ 3 (0, 0)) cu cv ->
 Calls P 192 ⟨[.slice cr cs ct, (.slice (some ⟨cu, 0, none⟩) 1 1)]⟩ cv fun cw cx =>
 ∃ cy, cw = .returned (.int .i64 cy) /\
 R (.bool (decide ((cy : Int) = 0))) cx)) /\
 (true = false ->
 ∃ cz d0 d1, Loads P 29 (((⟨r, 0, none⟩ : Addr).add 0).add 1) (.slice cz d0 d1) aa /\ ((decide ((18 : Int) < ((d0 : Nat) : Int))) = true ->
 R (.bool false) aa) /\
 ((decide ((18 : Int) < ((d0 : Nat) : Int))) = false ->
 ∃ d2 d3 d4, Loads P 29 (((⟨r, 0, none⟩ : Addr).add 0).add 1) (.slice d2 d3 d4) aa /\ ∃ d5 d6 d7, Loads P 29 ((⟨r, 0, none⟩ : Addr).add 2) (.slice d5 d6 d7) aa /\ Calls P 193 ⟨[.slice d2 d3 d4, .slice d5 d6 d7]⟩ aa fun d8 d9 =>
 ∃ da db dc, d8 = .returned (.slice da db dc) /\
 ∀ dd de, New d9 (.cells ⟨[.int .i64 1]⟩ 3 (0, 0)) dd de ->
 Calls P 192 ⟨[.slice da db dc, (.slice (some ⟨dd, 0, none⟩) 1 1)]⟩ de fun df dg =>
 ∃ dh, df = .returned (.int .i64 dh) /\
 R (.bool (decide ((dh : Int) = 0))) dg))) /\
 ((decide ((((ch : Nat) : Int) : Int) = 0)) = false ->
 ∃ di dj dk, Loads P 29 ((⟨r, 0, none⟩ : Addr).add 2) (.slice di dj dk) aa /\ ((decide ((18 : Int) < ((dj : Nat) : Int))) = true ->
 (true = true ->
 R (.bool false) aa) /\
 (true = false ->
 ∃ dl dm dn, Loads P 29 (((⟨r, 0, none⟩ : Addr).add 0).add 1) (.slice dl dm dn) aa /\ ∃ dp dq dr, Loads P 29 ((⟨r, 0, none⟩ : Addr).add 2) (.slice dp dq dr) aa /\ Calls P 193 ⟨[.slice dl dm dn, .slice dp dq dr]⟩ aa fun ds dt =>
 ∃ du dv dw, ds = .returned (.slice du dv dw) /\
 ∀ dx dy, New dt (.cells ⟨[.int .i64 1]⟩ 3 (0, 0)) dx dy ->
 Calls P 192 ⟨[.slice du dv dw, (.slice (some ⟨dx, 0, none⟩) 1 1)]⟩ dy fun dz e0 =>
 ∃ e1, dz = .returned (.int .i64 e1) /\
 R (.bool (decide ((e1 : Int) = 0))) e0)) /\
 ((decide ((18 : Int) < ((dj : Nat) : Int))) = false ->
 ∃ e2 e3 e4, Loads P 29 (((⟨r, 0, none⟩ : Addr).add 0).add 1) (.slice e2 e3 e4) aa /\ ((decide ((18 : Int) < ((e3 : Nat) : Int))) = true ->
 R (.bool false) aa) /\
 ((decide ((18 : Int) < ((e3 : Nat) : Int))) = false ->
 ∃ e5 e6 e7, Loads P 29 (((⟨r, 0, none⟩ : Addr).add 0).add 1) (.slice e5 e6 e7) aa /\ ∃ e8 e9 ea, Loads P 29 ((⟨r, 0, none⟩ : Addr).add 2) (.slice e8 e9 ea) aa /\ Calls P 193 ⟨[.slice e5 e6 e7, .slice e8 e9 ea]⟩ aa fun eb ec =>
 ∃ ed ee ef, eb = .returned (.slice ed ee ef) /\
 ∀ eg eh, New ec (.cells ⟨[.int .i64 1]⟩ 3 (0, 0)) eg eh ->
 Calls P 192 ⟨[.slice ed ee ef, (.slice (some ⟨eg, 0, none⟩) 1 1)]⟩ eh fun ei ej =>
 ∃ ek, ei = .returned (.int .i64 ek) /\
 R (.bool (decide ((ek : Int) = 0))) ej))))) /\
 ((!t5) = false ->
 ∃ el em en, Loads P 29 ((⟨r, 0, none⟩ : Addr).add 2) (.slice el em en) aa /\ Calls P 191 ⟨[.slice el em en]⟩ aa fun eo ep =>
 ∃ eq, eo = .returned (.bool eq) /\
 ((!eq) = true ->
 (true = true ->
 (true = true ->
 (true = true ->
 R (.bool false) ep) /\
 (true = false ->
 ∃ er es et, Loads P 29 (((⟨r, 0, none⟩ : Addr).add 0).add 1) (.slice er es et) ep /\ ∃ eu ev ew, Loads P 29 ((⟨r, 0, none⟩ : Addr).add 2) (.slice eu ev ew) ep /\ Calls P 193 ⟨[.slice er es et, .slice eu ev ew]⟩ ep fun ex ey =>
 ∃ ez f0 f1, ex = .returned (.slice ez f0 f1) /\
 ∀ f2 f3, New ey (.cells ⟨[.int .i64 1]⟩ 3 (0, 0)) f2 f3 ->
 Calls P 192 ⟨[.slice ez f0 f1, (.slice (some ⟨f2, 0, none⟩) 1 1)]⟩ f3 fun f4 f5 =>
 ∃ f6, f4 = .returned (.int .i64 f6) /\
 R (.bool (decide ((f6 : Int) = 0))) f5)) /\
 (true = false ->
 ∃ f7 f8 f9, Loads P 29 (((⟨r, 0, none⟩ : Addr).add 0).add 1) (.slice f7 f8 f9) ep /\ ((decide ((18 : Int) < ((f8 : Nat) : Int))) = true ->
 R (.bool false) ep) /\
 ((decide ((18 : Int) < ((f8 : Nat) : Int))) = false ->
 ∃ fa fb fc, Loads P 29 (((⟨r, 0, none⟩ : Addr).add 0).add 1) (.slice fa fb fc) ep /\ ∃ fd fe ff, Loads P 29 ((⟨r, 0, none⟩ : Addr).add 2) (.slice fd fe ff) ep /\ Calls P 193 ⟨[.slice fa fb fc, .slice fd fe ff]⟩ ep fun fg fh =>
 ∃ fi fj fk, fg = .returned (.slice fi fj fk) /\
 ∀ fl fm, New fh (.cells ⟨[.int .i64 1]⟩ 3 (0, 0)) fl fm ->
 Calls P 192 ⟨[.slice fi fj fk, (.slice (some ⟨fl, 0, none⟩) 1 1)]⟩ fm fun fn fo =>
 ∃ fp, fn = .returned (.int .i64 fp) /\
 R (.bool (decide ((fp : Int) = 0))) fo))) /\
 (true = false ->
 ∃ fq fr fs, Loads P 29 ((⟨r, 0, none⟩ : Addr).add 2) (.slice fq fr fs) ep /\ ((decide ((18 : Int) < ((fr : Nat) : Int))) = true ->
 (true = true ->
 R (.bool false) ep) /\
 (true = false ->
 ∃ ft fu fv, Loads P 29 (((⟨r, 0, none⟩ : Addr).add 0).add 1) (.slice ft fu fv) ep /\ ∃ fw fx fy, Loads P 29 ((⟨r, 0, none⟩ : Addr).add 2) (.slice fw fx fy) ep /\ Calls P 193 ⟨[.slice ft fu fv, .slice fw fx fy]⟩ ep fun fz g0 =>
 ∃ g1 g2 g3, fz = .returned (.slice g1 g2 g3) /\
 ∀ g4 g5, New g0 (.cells ⟨[.int .i64 1]⟩ 3 (0, 0)) g4 g5 ->
 Calls P 192 ⟨[.slice g1 g2 g3, (.slice (some ⟨g4, 0, none⟩) 1 1)]⟩ g5 fun g6 g7 =>
 ∃ g8, g6 = .returned (.int .i64 g8) /\
 R (.bool (decide ((g8 : Int) = 0))) g7)) /\
 ((decide ((18 : Int) < ((fr : Nat) : Int))) = false ->
 ∃ g9 ga gb, Loads P 29 (((⟨r, 0, none⟩ : Addr).add 0).add 1) (.slice g9 ga gb) ep /\ ((decide ((18 : Int) < ((ga : Nat) : Int))) = true ->
 R (.bool false) ep) /\
 ((decide ((18 : Int) < ((ga : Nat) : Int))) = false ->
 ∃ gc gd ge, Loads P 29 (((⟨r, 0, none⟩ : Addr).add 0).add 1) (.slice gc gd ge) ep /\ ∃ gf gg gh, Loads P 29 ((⟨r, 0, none⟩ : Addr).add 2) (.slice gf gg gh) ep /\ Calls P 193 ⟨[.slice gc gd ge, .slice gf gg gh]⟩ ep fun gi gj =>
 ∃ gk gl gm, gi = .returned (.slice gk gl gm) /\
 ∀ gn go, New gj (.cells ⟨[.int .i64 1]⟩ 3 (0, 0)) gn go ->
 Calls P 192 ⟨[.slice gk gl gm, (.slice (some ⟨gn, 0, none⟩) 1 1)]⟩ go fun gp gq =>
 ∃ gr, gp = .returned (.int .i64 gr) /\
 R (.bool (decide ((gr : Int) = 0))) gq)))) /\
 ((!eq) = false ->
 ∃ gs gt gu, Loads P 29 ((⟨r, 0, none⟩ : Addr).add 2) (.slice gs gt gu) ep /\ ((decide ((((gt : Nat) : Int) : Int) = 0)) = true ->
 (true = true ->
 (true = true ->
 R (.bool false) ep) /\
 (true = false ->
 ∃ gv gw gx, Loads P 29 (((⟨r, 0, none⟩ : Addr).add 0).add 1) (.slice gv gw gx) ep /\ ∃ gy gz h0, Loads P 29 ((⟨r, 0, none⟩ : Addr).add 2) (.slice gy gz h0) ep /\ Calls P 193 ⟨[.slice gv gw gx, .slice gy gz h0]⟩ ep fun h1 h2 =>
 ∃ h3 h4 h5, h1 = .returned (.slice h3 h4 h5) /\
 ∀ h6 h7, New h2 (.cells ⟨[.int .i64 1]⟩ 3 (0, 0)) h6 h7 ->
 Calls P 192 ⟨[.slice h3 h4 h5, (.slice (some ⟨h6, 0, none⟩) 1 1)]⟩ h7 fun h8 h9 =>
 ∃ ha, h8 = .returned (.int .i64 ha) /\
 R (.bool (decide ((ha : Int) = 0))) h9)) /\
 (true = false ->
 ∃ hb hc hd, Loads P 29 (((⟨r, 0, none⟩ : Addr).add 0).add 1) (.slice hb hc hd) ep /\ ((decide ((18 : Int) < ((hc : Nat) : Int))) = true ->
 R (.bool false) ep) /\
 ((decide ((18 : Int) < ((hc : Nat) : Int))) = false ->
 ∃ he hf hg, Loads P 29 (((⟨r, 0, none⟩ : Addr).add 0).add 1) (.slice he hf hg) ep /\ ∃ hh hi hj, Loads P 29 ((⟨r, 0, none⟩ : Addr).add 2) (.slice hh hi hj) ep /\ Calls P 193 ⟨[.slice he hf hg, .slice hh hi hj]⟩ ep fun hk hl =>
 ∃ hm hn ho, hk = .returned (.slice hm hn ho) /\
 ∀ hp hq, New hl (.cells ⟨[.int .i64 1]⟩ 3 (0, 0)) hp hq ->
 Calls P 192 ⟨[.slice hm hn ho, (.slice (some ⟨hp, 0, none⟩) 1 1)]⟩ hq fun hr hs =>
 ∃ ht, hr = .returned (.int .i64 ht) /\
 R (.bool (decide ((ht : Int) = 0))) hs))) /\
 ((decide ((((gt : Nat) : Int) : Int) = 0)) = false ->
 ∃ hu hv hw, Loads P 29 ((⟨r, 0, none⟩ : Addr).add 2) (.slice hu hv hw) ep /\ ((decide ((18 : Int) < ((hv : Nat) : Int))) = true ->
 (true = true ->
 R (.bool false) ep) /\
 (true = false ->
 ∃ hx hy hz, Loads P 29 (((⟨r, 0, none⟩ : Addr).add 0).add 1) (.slice hx hy hz) ep /\ ∃ i0 i1 i2, Loads P 29 ((⟨r, 0, none⟩ : Addr).add 2) (.slice i0 i1 i2) ep /\ Calls P 193 ⟨[.slice hx hy hz, .slice i0 i1 i2]⟩ ep fun i3 i4 =>
 ∃ i5 i6 i7, i3 = .returned (.slice i5 i6 i7) /\
 ∀ i8 i9, New i4 (.cells ⟨[.int .i64 1]⟩ 3 (0, 0)) i8 i9 ->
 Calls P 192 ⟨[.slice i5 i6 i7, (.slice (some ⟨i8, 0, none⟩) 1 1)]⟩ i9 fun ia ib =>
 ∃ ic, ia = .returned (.int .i64 ic) /\
 R (.bool (decide ((ic : Int) = 0))) ib)) /\
 ((decide ((18 : Int) < ((hv : Nat) : Int))) = false ->
 ∃ id ie ig, Loads P 29 (((⟨r, 0, none⟩ : Addr).add 0).add 1) (.slice id ie ig) ep /\ ((decide ((18 : Int) < ((ie : Nat) : Int))) = true ->
 R (.bool false) ep) /\
 ((decide ((18 : Int) < ((ie : Nat) : Int))) = false ->
 ∃ ih ii ij, Loads P 29 (((⟨r, 0, none⟩ : Addr).add 0).add 1) (.slice ih ii ij) ep /\ ∃ ik il im, Loads P 29 ((⟨r, 0, none⟩ : Addr).add 2) (.slice ik il im) ep /\ Calls P 193 ⟨[.slice ih ii ij, .slice ik il im]⟩ ep fun io ip =>
 ∃ iq ir it, io = .returned (.slice iq ir it) /\
 ∀ iu iv, New ip (.cells ⟨[.int .i64 1]⟩ 3 (0, 0)) iu iv ->
 Calls P 192 ⟨[.slice iq ir it, (.slice (some ⟨iu, 0, none⟩) 1 1)]⟩ iv fun iw ix =>
 ∃ iy, iw = .returned (.int .i64 iy) /\
 R (.bool (decide ((iy : Int) = 0))) ix)))))
theorem spec_RatOk_ret {r0 : Bool} {a : Option Addr} {a0 a1 : Nat} {a2 : Option Addr} {a3 a4 : Nat} (h : spec_RatOk r0 a a0 a1 a2 a3 a4 w R) : Ret P 121 [.agg #[.bool r0, .slice a a0 a1, .slice a2 a3 a4]] w R := Ret.of_fsem Tryz.func121 rfl (Eq.mp (show _ = fsem P Tryz.f121 (fun k => []) _ R w from by kernel_rfl) h)
def laws_size (r0 : Bool) (a0 : Option Addr) (a1 a2 : Nat) (a3 : Option Addr) (a4 a5 : Nat) (w : World) (R : Value -> World -> Prop) : Prop :=
 ∀ r wv, New w (.cells ⟨[.bool r0, .slice a0 a1 a2, .slice a3 a4 a5]⟩ 60 (0, 0)) r wv ->
 ∀ a6 a7, New wv (.cells ⟨[.bool false, .slice none 0 0, .slice none 0 0]⟩ 60 (0, 0)) a6 a7 ->
 ∃ a8 a9 aa ab ac ae af, Loads P 60 ⟨r, 0, none⟩ (.agg #[.bool a8, .slice a9 aa ab, .slice ac ae af]) a7 /\ Calls P 47 ⟨[.agg #[.bool a8, .slice a9 aa ab, .slice ac ae af]]⟩ a7 fun e ag =>
 ∃ t4, e = .returned (.int .i64 t4) /\
 ((decide ((t4 : Int) < 0)) = true ->
 ∃ ah ai aj ak al am an, Loads P 60 ⟨r, 0, none⟩ (.agg #[.bool ah, .slice ai aj ak, .slice al am an]) ag /\ Calls P 194 ⟨[.agg #[.bool ah, .slice ai aj ak, .slice al am an]]⟩ ag fun ao ap =>
 ∃ aq ar au av aw ax ay t7, ao = .returned (.tuple #[.agg #[.bool aq, .slice ar au av, .slice aw ax ay], .bool t7]) /\
 Calls P 29 ⟨[.agg #[.bool aq, .slice ar au av, .slice aw ax ay], .bool t7]⟩ ap fun az b0 =>
 ∃ b1 b2 b3 b4 b5 b6 b7, az = .returned (.agg #[.bool b1, .slice b2 b3 b4, .slice b5 b6 b7]) /\
 ∃ wv_5, Stores P 60 ⟨a6, 0, none⟩ (.agg #[.bool b1, .slice b2 b3 b4, .slice b5 b6 b7]) b0 wv_5 /\
 ∃ r0_1 b8 b9 ba bb bc bd, Loads P 60 ⟨a6, 0, none⟩ (.agg #[.bool r0_1, .slice b8 b9 ba, .slice bb bc bd]) wv_5 /\ R (.agg #[.bool r0_1, .slice b8 b9 ba, .slice bb bc bd]) wv_5) /\
 ((decide ((t4 : Int) < 0)) = false ->
 ∃ be bf bg bh bi bj bk, Loads P 60 ⟨r, 0, none⟩ (.agg #[.bool be, .slice bf bg bh, .slice bi bj bk]) ag /\ ∃ wv_6, Stores P 60 ⟨a6, 0, none⟩ (.agg #[.bool be, .slice bf bg bh, .slice bi bj bk]) ag wv_6 /\
 ∃ r0_2 bl bm bn bo bp bq, Loads P 60 ⟨a6, 0, none⟩ (.agg #[.bool r0_2, .slice bl bm bn, .slice bo bp bq]) wv_6 /\ R (.agg #[.bool r0_2, .slice bl bm bn, .slice bo bp bq]) wv_6)
theorem laws_size_ret {r0 : Bool} {a : Option Addr} {a0 a1 : Nat} {a2 : Option Addr} {a3 a4 : Nat} (h : laws_size r0 a a0 a1 a2 a3 a4 w R) : Ret P 122 [.agg #[.bool r0, .slice a a0 a1, .slice a2 a3 a4]] w R := Ret.of_fsem Tryz.func122 rfl (Eq.mp (show _ = fsem P Tryz.f122 (fun k => []) _ R w from by kernel_rfl) h)
def impl_scaled (scale : Int) (w : World) (R : Value -> World -> Prop) : Prop :=
 ∀ r wv, New w (.cells ⟨[.int .i64 scale]⟩ 3 (0, 0)) r wv ->
 R (.func (.func 195) #[] #[(.pointer (some ⟨r, 0, none⟩))]) wv
theorem impl_scaled_ret {a : Int} (h : impl_scaled a w R) : Ret P 123 [.int .i64 a] w R := Ret.of_fsem Tryz.func123 rfl (Eq.mp (show _ = fsem P Tryz.f123 (fun k => []) _ R w from by kernel_rfl) h)
def impl_natCmp (a0 : Option Addr) (a1 a2 : Nat) (a3 : Option Addr) (a4 a5 : Nat) (w : World) (R : Value -> World -> Prop) : Prop :=
 ((decide ((((a1 : Nat) : Int) : Int) ≠ ((a4 : Nat) : Int))) = true ->
 ((decide ((((a1 : Nat) : Int) : Int) < ((a4 : Nat) : Int))) = true ->
 R (.int .i64 (-1)) w) /\
 ((decide ((((a1 : Nat) : Int) : Int) < ((a4 : Nat) : Int))) = false ->
 R (.int .i64 1) w)) /\
 ((decide ((((a1 : Nat) : Int) : Int) ≠ ((a4 : Nat) : Int))) = false ->
 ∃ a6 : Int, a6 = IntKind.wrap .i64 (((a1 : Nat) : Int) - 1) /\ ∃ (a7 : Int -> World -> Prop) (mu : Int -> World -> Nat), a7 a6 w /\
 ∀ (a8 : Fr) (wv : World) (i : Int), a7 i wv ->
 ((decide ((0 : Int) <= i)) = true ->
 (0 <= (i : Int) /\ (i : Int) < (a1 : Nat)) /\ ptrS a0 fun ad => ∃ a9, (∀ wv_1, Ext wv.drew wv_1 -> Loads P 3 (ad.add (i.toNat * 1)) (.int .i64 a9) wv_1) /\ (0 <= (i : Int) /\ (i : Int) < (a4 : Nat)) /\ ptrS a3 fun aa => ∃ ab, (∀ wv_2, Ext wv.drew wv_2 -> Loads P 3 (aa.add (i.toNat * 1)) (.int .i64 ab) wv_2) /\ ((decide ((a9 : Int) ≠ ab)) = true ->
 (0 <= (i : Int) /\ (i : Int) < (a1 : Nat)) /\ ptrS a0 fun ac => ∃ ae, (∀ wv_3, Ext wv.drew.drew wv_3 -> Loads P 3 (ac.add (i.toNat * 1)) (.int .i64 ae) wv_3) /\ (0 <= (i : Int) /\ (i : Int) < (a4 : Nat)) /\ ptrS a3 fun af => ∃ ag, (∀ wv_4, Ext wv.drew.drew wv_4 -> Loads P 3 (af.add (i.toNat * 1)) (.int .i64 ag) wv_4) /\ ((decide ((ae : Int) < ag)) = true ->
 R (.int .i64 (-1)) wv.drew.drew) /\
 ((decide ((ae : Int) < ag)) = false ->
 R (.int .i64 1) wv.drew.drew)) /\
 ((decide ((a9 : Int) ≠ ab)) = false ->
 ∃ ah : Int, ah = IntKind.wrap .i64 (i - 1) /\ a7 ah wv.drew /\ mu ah wv.drew < mu i wv)) /\
 ((decide ((0 : Int) <= i)) = false ->
 R (.int .i64 0) wv))
theorem impl_natCmp_ret {a : Option Addr} {a0 a1 : Nat} {a2 : Option Addr} {a3 a4 : Nat} (h : impl_natCmp a a0 a1 a2 a3 a4 w R) : Ret P 127 [.slice a a0 a1, .slice a2 a3 a4] w R := Ret.of_fsem Tryz.func127 rfl (Eq.mp (show _ = fsem P Tryz.f127 (fun k => cond (Nat.beq k 7) [(5, .one (.int .i64))] ([])) _ R w from by kernel_rfl) h)
def impl_NatOf (n : Int) (w : World) (R : Value -> World -> Prop) : Prop :=
 ((decide ((n : Int) < 0)) = true ->
 R (.slice none 0 0) w) /\
 ((decide ((n : Int) < 0)) = false ->
 ∃ t6 : Int, t6 = IntKind.wrap .u64 n /\ Calls P 111 ⟨[.int .u64 t6]⟩ w fun e wv =>
 ∃ a0 a1 a2, e = .returned (.slice a0 a1 a2) /\
 R (.slice a0 a1 a2) wv)
theorem impl_NatOf_ret {n : Int} (h : impl_NatOf n w R) : Ret P 128 [.int .i64 n] w R := Ret.of_fsem Tryz.func128 rfl (Eq.mp (show _ = fsem P Tryz.f128 (fun k => []) _ R w from by kernel_rfl) h)
def impl_natSub_j1 (a0 r : Nat) (a1 : World) (a2 : Int -> Int -> World -> Prop) (mu : Int -> Int -> World -> Nat) (borrow a3 : Int) (borrow_1 n_1 : Int) (a4 : World) (R : Value -> World -> Prop) : Prop :=
 (0 <= (a3 : Int) /\ (a3 : Int) < (a0 : Nat)) /\ ∃ wv_2, Stores P 3 ((⟨r, 0, none⟩ : Addr).add (a3.toNat * 1)) (.int .i64 n_1) a4 wv_2 /\
 ∃ a5 : Int, a5 = IntKind.wrap .i64 (a3 + 1) /\ a2 borrow_1 a5 wv_2 /\ mu borrow_1 a5 wv_2 < mu borrow a3 a1
def impl_natSub_j0 (a0 r : Nat) (a1 : World) (a2 : Int -> Int -> World -> Prop) (mu : Int -> Int -> World -> Nat) (borrow a3 n : Int) (W : World) (R : Value -> World -> Prop) : Prop :=
 ((decide ((n : Int) < 0)) = true ->
 ∃ a4 : Int, a4 = IntKind.wrap .i64 (n + 1000000000) /\ impl_natSub_j1 a0 r a1 a2 mu borrow a3 1 a4 W R) /\
 ((decide ((n : Int) < 0)) = false ->
 impl_natSub_j1 a0 r a1 a2 mu borrow a3 0 n W R)
def impl_natSub (a0 : Option Addr) (a1 a2 : Nat) (a3 : Option Addr) (a4 a5 : Nat) (w : World) (R : Value -> World -> Prop) : Prop :=
 (0 <= (((a1 : Nat) : Int) : Int) /\ (((a1 : Nat) : Int) : Int) <= ((a1 : Nat) : Int) /\ ((8 : Nat) : Int) * ((a1 : Nat) : Int) <= 281474976710656) /\
 ∀ r wv, New w (.cells ⟨zeroRow (.int .i64 0) (a1 * 1)⟩ 3 (0, 0)) r wv ->
 ∃ (a6 : Int -> Int -> World -> Prop) (mu : Int -> Int -> World -> Nat), a6 0 0 wv /\
 ∀ (a7 : Fr) (a8 : World) (borrow a9 : Int), a6 borrow a9 a8 ->
 ((decide ((a9 : Int) < ((a1 : Nat) : Int))) = true ->
 (0 <= (a9 : Int) /\ (a9 : Int) < (a1 : Nat)) /\ ptrS a0 fun ad => ∃ aa, Loads P 3 (ad.add (a9.toNat * 1)) (.int .i64 aa) a8 /\ ∃ ab : Int, ab = IntKind.wrap .i64 (aa - borrow) /\ ((decide ((a9 : Int) < ((a4 : Nat) : Int))) = true ->
 (0 <= (a9 : Int) /\ (a9 : Int) < (a4 : Nat)) /\ ptrS a3 fun ac => ∃ ae, Loads P 3 (ac.add (a9.toNat * 1)) (.int .i64 ae) a8 /\ ∃ af : Int, af = IntKind.wrap .i64 (ab - ae) /\ impl_natSub_j0 a1 r a8 a6 mu borrow a9 af a8 R) /\
 ((decide ((a9 : Int) < ((a4 : Nat) : Int))) = false ->
 impl_natSub_j0 a1 r a8 a6 mu borrow a9 ab a8 R)) /\
 ((decide ((a9 : Int) < ((a1 : Nat) : Int))) = false ->
 Calls P 181 ⟨[(.slice (some ⟨r, 0, none⟩) a1 a1)]⟩ a8 fun e ag =>
 ∃ ah ai aj, e = .returned (.slice ah ai aj) /\
 R (.slice ah ai aj) ag)
theorem impl_natSub_ret {a : Option Addr} {a0 a1 : Nat} {a2 : Option Addr} {a3 a4 : Nat} (h : impl_natSub a a0 a1 a2 a3 a4 w R) : Ret P 129 [.slice a a0 a1, .slice a2 a3 a4] w R := Ret.of_fsem Tryz.func129 rfl (Eq.mp (show _ = fsem P Tryz.f129 (fun k => cond (Nat.beq k 5) [(6, .one (.int .i64)), (14, .one (.int .i64))] ([])) _ R w from by kernel_rfl) h)
def impl_ratNeg (r0 : Bool) (a0 : Option Addr) (a1 a2 : Nat) (a3 : Option Addr) (a4 a5 : Nat) (w : World) (R : Value -> World -> Prop) : Prop :=
 ∀ r wv, New w (.cells ⟨[.bool r0, .slice a0 a1 a2, .slice a3 a4 a5]⟩ 60 (0, 0)) r wv ->
 ∀ a6 a7, New wv (.cells ⟨[.bool false, .slice none 0 0, .slice none 0 0]⟩ 60 (0, 0)) a6 a7 ->
 ∃ a8 a9 aa ab, (∀ wv_2, Ext a7.drew wv_2 -> Loads P 31 ((⟨r, 0, none⟩ : Addr).add 0) (.agg #[.bool a8, .slice a9 aa ab]) wv_2) /\ Calls P 148 ⟨[.agg #[.bool a8, .slice a9 aa ab]]⟩ a7.drew fun e ac =>
 ∃ ae af ag ah, e = .returned (.agg #[.bool ae, .slice af ag ah]) /\
 Ext a7.drew ac /\ ∃ ai aj ak, (∀ wv_4, Ext a7.drew wv_4 -> Loads P 29 ((⟨r, 0, none⟩ : Addr).add 2) (.slice ai aj ak) wv_4) /\ Calls P 183 ⟨[.slice ai aj ak]⟩ ac fun al am =>
 ∃ an ao ap, al = .returned (.slice an ao ap) /\
 ∃ wv_6, Stores P 60 ⟨a6, 0, none⟩ (.agg #[.bool ae, .slice af ag ah, .slice an ao ap]) am wv_6 /\
 ∃ r0_1 aq ar au av aw ax, Loads P 60 ⟨a6, 0, none⟩ (.agg #[.bool r0_1, .slice aq ar au, .slice av aw ax]) wv_6 /\ R (.agg #[.bool r0_1, .slice aq ar au, .slice av aw ax]) wv_6
theorem impl_ratNeg_ret {r0 : Bool} {a : Option Addr} {a0 a1 : Nat} {a2 : Option Addr} {a3 a4 : Nat} (h : impl_ratNeg r0 a a0 a1 a2 a3 a4 w R) : Ret P 130 [.agg #[.bool r0, .slice a a0 a1, .slice a2 a3 a4]] w R := Ret.of_fsem Tryz.func130 rfl (Eq.mp (show _ = fsem P Tryz.f130 (fun k => []) _ R w from by kernel_rfl) h)
def impl_IntText (n : Int) (w : World) (R : Value -> World -> Prop) : Prop :=
 Calls P 162 ⟨[.int .i64 n]⟩ w fun e wv =>
 ∃ t4, e = .returned (.string t4) /\
 R (.string t4) wv
theorem impl_IntText_ret {n : Int} (h : impl_IntText n w R) : Ret P 131 [.int .i64 n] w R := Ret.of_fsem Tryz.func131 rfl (Eq.mp (show _ = fsem P Tryz.f131 (fun k => []) _ R w from by kernel_rfl) h)
end Go.Proofs.YtbgokfhcgcoipaaGreatDoor
namespace Go.Proofs.YtbgokfhcgcoipaaGreatDoor
variable {w : World} {R : Value -> World -> Prop}
open Go Go.Proofs.YtbgokfhcgcoipaaGreatDoor.Sx
set_option maxRecDepth 100000
def impl_RatOk_j0 (r : Nat) (W : World) (R : Value -> World -> Prop) : Prop :=
 ∃ a0 a1 a2, Loads P 29 (((⟨r, 0, none⟩ : Addr).add 0).add 1) (.slice a0 a1 a2) W /\ ∃ a3 a4 a5, Loads P 29 ((⟨r, 0, none⟩ : Addr).add 2) (.slice a3 a4 a5) W /\ Calls P 179 ⟨[.slice a0 a1 a2, .slice a3 a4 a5]⟩ W fun a6 a7 =>
 ∃ a8 a9 aa, a6 = .returned (.slice a8 a9 aa) /\
 ((decide ((((a9 : Nat) : Int) : Int) = 1)) = true ->
 (0 <= (0 : Int) /\ (0 : Int) < (a9 : Nat)) /\ ptrS a8 fun ad => ∃ ab, Loads P 3 (ad.add (0 * 1)) (.int .i64 ab) a7 /\ R (.bool (decide ((ab : Int) = 1))) a7) /\
 ((decide ((((a9 : Nat) : Int) : Int) = 1)) = false ->
 R (.bool false) a7)
def impl_RatOk (r0 : Bool) (a0 : Option Addr) (a1 a2 : Nat) (a3 : Option Addr) (a4 a5 : Nat) (w : World) (R : Value -> World -> Prop) : Prop :=
 ∀ r wv, New w (.cells ⟨[.bool r0, .slice a0 a1 a2, .slice a3 a4 a5]⟩ 60 (0, 0)) r wv ->
 ∃ a6 a7 a8 a9, Loads P 31 ((⟨r, 0, none⟩ : Addr).add 0) (.agg #[.bool a6, .slice a7 a8 a9]) wv /\ Calls P 96 ⟨[.agg #[.bool a6, .slice a7 a8 a9]]⟩ wv fun e aa =>
 ∃ t6, e = .returned (.bool t6) /\
 ((!t6) = true ->
 (true = true ->
 (true = true ->
 (true = true ->
 (true = true ->
 R (.bool false) aa) /\
 (true = false ->
 impl_RatOk_j0 r aa R)) /\
 (true = false ->
 ∃ ab ac ae, Loads P 29 (((⟨r, 0, none⟩ : Addr).add 0).add 1) (.slice ab ac ae) aa /\ ((decide ((18 : Int) < ((ac : Nat) : Int))) = true ->
 R (.bool false) aa) /\
 ((decide ((18 : Int) < ((ac : Nat) : Int))) = false ->
 impl_RatOk_j0 r aa R))) /\
 (true = false ->
 ∃ af ag ah, Loads P 29 ((⟨r, 0, none⟩ : Addr).add 2) (.slice af ag ah) aa /\ ((decide ((18 : Int) < ((ag : Nat) : Int))) = true ->
 (true = true ->
 R (.bool false) aa) /\
 (true = false ->
 impl_RatOk_j0 r aa R)) /\
 ((decide ((18 : Int) < ((ag : Nat) : Int))) = false ->
 ∃ ai aj ak, Loads P 29 (((⟨r, 0, none⟩ : Addr).add 0).add 1) (.slice ai aj ak) aa /\ ((decide ((18 : Int) < ((aj : Nat) : Int))) = true ->
 R (.bool false) aa) /\
 ((decide ((18 : Int) < ((aj : Nat) : Int))) = false ->
 impl_RatOk_j0 r aa R)))) /\
 (true = false ->
 ∃ al am an, Loads P 29 ((⟨r, 0, none⟩ : Addr).add 2) (.slice al am an) aa /\ ((decide ((((am : Nat) : Int) : Int) = 0)) = true ->
 (true = true ->
 (true = true ->
 R (.bool false) aa) /\
 (true = false ->
 impl_RatOk_j0 r aa R)) /\
 (true = false ->
 ∃ ao ap aq, Loads P 29 (((⟨r, 0, none⟩ : Addr).add 0).add 1) (.slice ao ap aq) aa /\ ((decide ((18 : Int) < ((ap : Nat) : Int))) = true ->
 R (.bool false) aa) /\
 ((decide ((18 : Int) < ((ap : Nat) : Int))) = false ->
 impl_RatOk_j0 r aa R))) /\
 ((decide ((((am : Nat) : Int) : Int) = 0)) = false ->
 ∃ ar au av, Loads P 29 ((⟨r, 0, none⟩ : Addr).add 2) (.slice ar au av) aa /\ ((decide ((18 : Int) < ((au : Nat) : Int))) = true ->
 (true = true ->
 R (.bool false) aa) /\
 (true = false ->
 impl_RatOk_j0 r aa R)) /\
 ((decide ((18 : Int) < ((au : Nat) : Int))) = false ->
 ∃ aw ax ay, Loads P 29 (((⟨r, 0, none⟩ : Addr).add 0).add 1) (.slice aw ax ay) aa /\ ((decide ((18 : Int) < ((ax : Nat) : Int))) = true ->
 R (.bool false) aa) /\
 ((decide ((18 : Int) < ((ax : Nat) : Int))) = false ->
 impl_RatOk_j0 r aa R))))) /\
 ((!t6) = false ->
 ∃ az b0 b1, Loads P 29 ((⟨r, 0, none⟩ : Addr).add 2) (.slice az b0 b1) aa /\ Calls P 173 ⟨[.slice az b0 b1]⟩ aa fun b2 b3 =>
 ∃ b4, b2 = .returned (.bool b4) /\
 ((!b4) = true ->
 (true = true ->
 (true = true ->
 (true = true ->
 R (.bool false) b3) /\
 (true = false ->
 impl_RatOk_j0 r b3 R)) /\
 (true = false ->
 ∃ b5 b6 b7, Loads P 29 (((⟨r, 0, none⟩ : Addr).add 0).add 1) (.slice b5 b6 b7) b3 /\ ((decide ((18 : Int) < ((b6 : Nat) : Int))) = true ->
 R (.bool false) b3) /\
 ((decide ((18 : Int) < ((b6 : Nat) : Int))) = false ->
 impl_RatOk_j0 r b3 R))) /\
 (true = false ->
 ∃ b8 b9 ba, Loads P 29 ((⟨r, 0, none⟩ : Addr).add 2) (.slice b8 b9 ba) b3 /\ ((decide ((18 : Int) < ((b9 : Nat) : Int))) = true ->
 (true = true ->
 R (.bool false) b3) /\
 (true = false ->
 impl_RatOk_j0 r b3 R)) /\
 ((decide ((18 : Int) < ((b9 : Nat) : Int))) = false ->
 ∃ bb bc bd, Loads P 29 (((⟨r, 0, none⟩ : Addr).add 0).add 1) (.slice bb bc bd) b3 /\ ((decide ((18 : Int) < ((bc : Nat) : Int))) = true ->
 R (.bool false) b3) /\
 ((decide ((18 : Int) < ((bc : Nat) : Int))) = false ->
 impl_RatOk_j0 r b3 R)))) /\
 ((!b4) = false ->
 ∃ be bf bg, Loads P 29 ((⟨r, 0, none⟩ : Addr).add 2) (.slice be bf bg) b3 /\ ((decide ((((bf : Nat) : Int) : Int) = 0)) = true ->
 (true = true ->
 (true = true ->
 R (.bool false) b3) /\
 (true = false ->
 impl_RatOk_j0 r b3 R)) /\
 (true = false ->
 ∃ bh bi bj, Loads P 29 (((⟨r, 0, none⟩ : Addr).add 0).add 1) (.slice bh bi bj) b3 /\ ((decide ((18 : Int) < ((bi : Nat) : Int))) = true ->
 R (.bool false) b3) /\
 ((decide ((18 : Int) < ((bi : Nat) : Int))) = false ->
 impl_RatOk_j0 r b3 R))) /\
 ((decide ((((bf : Nat) : Int) : Int) = 0)) = false ->
 ∃ bk bl bm, Loads P 29 ((⟨r, 0, none⟩ : Addr).add 2) (.slice bk bl bm) b3 /\ ((decide ((18 : Int) < ((bl : Nat) : Int))) = true ->
 (true = true ->
 R (.bool false) b3) /\
 (true = false ->
 impl_RatOk_j0 r b3 R)) /\
 ((decide ((18 : Int) < ((bl : Nat) : Int))) = false ->
 ∃ bn bo bp, Loads P 29 (((⟨r, 0, none⟩ : Addr).add 0).add 1) (.slice bn bo bp) b3 /\ ((decide ((18 : Int) < ((bo : Nat) : Int))) = true ->
 R (.bool false) b3) /\
 ((decide ((18 : Int) < ((bo : Nat) : Int))) = false ->
 impl_RatOk_j0 r b3 R)))))
theorem impl_RatOk_ret {r0 : Bool} {a : Option Addr} {a0 a1 : Nat} {a2 : Option Addr} {a3 a4 : Nat} (h : impl_RatOk r0 a a0 a1 a2 a3 a4 w R) : Ret P 132 [.agg #[.bool r0, .slice a a0 a1, .slice a2 a3 a4]] w R := Ret.of_fsem Tryz.func132 rfl (Eq.mp (show _ = fsem P Tryz.f132 (fun k => []) _ R w from by kernel_rfl) h)
def impl_intsOk (x0 : Bool) (a0 : Option Addr) (a1 a2 : Nat) (y0 : Bool) (a3 : Option Addr) (a4 a5 : Nat) (w : World) (R : Value -> World -> Prop) : Prop :=
 ∀ r wv, New w (.cells ⟨[.bool x0, .slice a0 a1 a2]⟩ 31 (0, 0)) r wv ->
 ∀ a6 a7, New wv (.cells ⟨[.bool y0, .slice a3 a4 a5]⟩ 31 (0, 0)) a6 a7 ->
 ∃ a8 a9 aa ab, Loads P 31 ⟨r, 0, none⟩ (.agg #[.bool a8, .slice a9 aa ab]) a7 /\ Calls P 96 ⟨[.agg #[.bool a8, .slice a9 aa ab]]⟩ a7 fun e ac =>
 ∃ t6, e = .returned (.bool t6) /\
 (t6 = true ->
 ∃ ae af ag ah, Loads P 31 ⟨a6, 0, none⟩ (.agg #[.bool ae, .slice af ag ah]) ac /\ Calls P 96 ⟨[.agg #[.bool ae, .slice af ag ah]]⟩ ac fun ai aj =>
 ∃ t9, ai = .returned (.bool t9) /\
 R (.bool t9) aj) /\
 (t6 = false ->
 R (.bool false) ac)
theorem impl_intsOk_ret {x0 : Bool} {a : Option Addr} {a0 a1 : Nat} {y0 : Bool} {a2 : Option Addr} {a3 a4 : Nat} (h : impl_intsOk x0 a a0 a1 y0 a2 a3 a4 w R) : Ret P 142 [.agg #[.bool x0, .slice a a0 a1], .agg #[.bool y0, .slice a2 a3 a4]] w R := Ret.of_fsem Tryz.func142 rfl (Eq.mp (show _ = fsem P Tryz.f142 (fun k => []) _ R w from by kernel_rfl) h)
def impl_intNeg (x0 : Bool) (a0 : Option Addr) (a1 a2 : Nat) (w : World) (R : Value -> World -> Prop) : Prop :=
 ∀ r wv, New w (.cells ⟨[.bool x0, .slice a0 a1 a2]⟩ 31 (0, 0)) r wv ->
 ∀ a3 a4, New wv (.cells ⟨[.bool false, .slice none 0 0]⟩ 31 (0, 0)) a3 a4 ->
 ∃ t4, (∀ wv_2, Ext a4.drew wv_2 -> Loads P 4 ((⟨r, 0, none⟩ : Addr).add 0) (.bool t4) wv_2) /\ ∃ a5 a6 a7, (∀ wv_3, Ext a4.drew wv_3 -> Loads P 29 ((⟨r, 0, none⟩ : Addr).add 1) (.slice a5 a6 a7) wv_3) /\ Calls P 183 ⟨[.slice a5 a6 a7]⟩ a4.drew fun e a8 =>
 ∃ a9 aa ab, e = .returned (.slice a9 aa ab) /\
 Ext a4.drew a8 /\ Calls P 170 ⟨[(.bool (!t4)), .slice a9 aa ab]⟩ a8 fun ac ae =>
 ∃ af ag ah ai, ac = .returned (.agg #[.bool af, .slice ag ah ai]) /\
 ∃ wv_6, Stores P 31 ⟨a3, 0, none⟩ (.agg #[.bool af, .slice ag ah ai]) ae wv_6 /\
 ∃ r0 aj ak al, Loads P 31 ⟨a3, 0, none⟩ (.agg #[.bool r0, .slice aj ak al]) wv_6 /\ R (.agg #[.bool r0, .slice aj ak al]) wv_6
theorem impl_intNeg_ret {x0 : Bool} {a : Option Addr} {a0 a1 : Nat} (h : impl_intNeg x0 a a0 a1 w R) : Ret P 148 [.agg #[.bool x0, .slice a a0 a1]] w R := Ret.of_fsem Tryz.func148 rfl (Eq.mp (show _ = fsem P Tryz.f148 (fun k => []) _ R w from by kernel_rfl) h)
def spec_l01In (n lo hi : Int) (w : World) (R : Value -> World -> Prop) : Prop :=
 ((decide ((lo : Int) <= n)) = true ->
 R (.bool (decide ((n : Int) <= hi))) w) /\
 ((decide ((lo : Int) <= n)) = false ->
 R (.bool false) w)
theorem spec_l01In_ret {n lo hi : Int} (h : spec_l01In n lo hi w R) : Ret P 157 [.int .i64 n, .int .i64 lo, .int .i64 hi] w R := Ret.of_fsem Tryz.func157 rfl (Eq.mp (show _ = fsem P Tryz.f157 (fun k => []) _ R w from by kernel_rfl) h)
def strings_IndexByte (s : ByteArray) (c : Int) (w : World) (R : Value -> World -> Prop) : Prop :=
 Calls P 220 ⟨[.string s, .int .u8 c]⟩ w fun e wv =>
 ∃ t7, e = .returned (.int .i64 t7) /\
 R (.int .i64 t7) wv
def strconv_Itoa (i : Int) (w : World) (R : Value -> World -> Prop) : Prop :=
 Calls P 223 ⟨[.int .i64 i]⟩ w fun e wv =>
 ∃ t4, e = .returned (.string t4) /\
 R (.string t4) wv
end Go.Proofs.YtbgokfhcgcoipaaGreatDoor
namespace Go.Proofs.YtbgokfhcgcoipaaGreatDoor
variable {w : World} {R : Value -> World -> Prop}
open Go Go.Proofs.YtbgokfhcgcoipaaGreatDoor.Sx
set_option maxRecDepth 100000
def spec_l04Make (neg : Bool) (a0 : Option Addr) (a1 a2 : Nat) (w : World) (R : Value -> World -> Prop) : Prop :=
 ∀ r wv, New w (.cells ⟨[.bool false, .slice none 0 0]⟩ 31 (0, 0)) r wv ->
 Calls P 225 ⟨[.slice a0 a1 a2]⟩ wv fun e a3 =>
 ∃ a4 a5 a6, e = .returned (.slice a4 a5 a6) /\
 (neg = true ->
 ∀ a7 a8, New a3 (.cells ⟨[]⟩ 3 (0, 0)) a7 a8 ->
 ∃ a9 aa ab ac, Appends P [29, 29] [(.slice (some ⟨a7, 0, none⟩) 0 0), .slice a4 a5 a6] (.slice a9 aa ab) a8 ac /\
 ∃ wv_4, Stores P 31 ⟨r, 0, none⟩ (.agg #[(.bool (decide ((0 : Int) < ((a5 : Nat) : Int)))), .slice a9 aa ab]) ac wv_4 /\
 ∃ r0 ae af ag, Loads P 31 ⟨r, 0, none⟩ (.agg #[.bool r0, .slice ae af ag]) wv_4 /\ R (.agg #[.bool r0, .slice ae af ag]) wv_4) /\
 (neg = false ->
 ∀ ah ai, New a3 (.cells ⟨[]⟩ 3 (0, 0)) ah ai ->
 ∃ aj ak al am, Appends P [29, 29] [(.slice (some ⟨ah, 0, none⟩) 0 0), .slice a4 a5 a6] (.slice aj ak al) ai am /\
 ∃ wv_7, Stores P 31 ⟨r, 0, none⟩ (.agg #[.bool false, .slice aj ak al]) am wv_7 /\
 ∃ r0_1 an ao ap, Loads P 31 ⟨r, 0, none⟩ (.agg #[.bool r0_1, .slice an ao ap]) wv_7 /\ R (.agg #[.bool r0_1, .slice an ao ap]) wv_7)
theorem spec_l04Make_ret {a : Bool} {a0 : Option Addr} {a1 a2 : Nat} (h : spec_l04Make a a0 a1 a2 w R) : Ret P 164 [.bool a, .slice a0 a1 a2] w R := Ret.of_fsem Tryz.func164 rfl (Eq.mp (show _ = fsem P Tryz.f164 (fun k => []) _ R w from by kernel_rfl) h)
def spec_NatOf (n : Int) (w : World) (R : Value -> World -> Prop) : Prop :=
 ∀ r wv, New w (.cells ⟨[]⟩ 3 (0, 0)) r wv ->
 ∃ (a0 : Int -> Option Addr -> Nat -> Nat -> World -> Prop) (mu : Int -> Option Addr -> Nat -> Nat -> World -> Nat), a0 n (some ⟨r, 0, none⟩) 0 0 wv /\
 ∀ (a1 : Fr) (a2 : World) (n_1 : Int) (a3 : Option Addr) (a4 a5 : Nat), a0 n_1 a3 a4 a5 a2 ->
 ((decide ((0 : Int) < n_1)) = true ->
 (1000000000 : Int) ≠ 0 /\ ∃ t9 : Int, t9 = Int.tmod n_1 1000000000 /\ ∀ a6 a7, New a2 (.cells ⟨[.int .i64 t9]⟩ 3 (0, 0)) a6 a7 ->
 ∃ a8 a9 aa ab, Appends P [29, 29] [.slice a3 a4 a5, (.slice (some ⟨a6, 0, none⟩) 1 1)] (.slice a8 a9 aa) a7 ab /\
 (1000000000 : Int) ≠ 0 /\ ∃ ac : Int, ac = IntKind.wrap .i64 (Int.tdiv n_1 1000000000) /\ a0 ac a8 a9 aa ab /\ mu ac a8 a9 aa ab < mu n_1 a3 a4 a5 a2) /\
 ((decide ((0 : Int) < n_1)) = false ->
 R (.slice a3 a4 a5) a2)
theorem spec_NatOf_ret {n : Int} (h : spec_NatOf n w R) : Ret P 165 [.int .i64 n] w R := Ret.of_fsem Tryz.func165 rfl (Eq.mp (show _ = fsem P Tryz.f165 (fun k => cond (Nat.beq k 3) [(0, .one (.int .i64)), (3, .one .slice)] ([])) _ R w from by kernel_rfl) h)
def spec_l01Byte_j0 (x : Int) (W : World) (R : Value -> World -> Prop) : Prop :=
 R (.int .i64 x) W
def spec_l01Byte (c : Option Addr) (w : World) (R : Value -> World -> Prop) : Prop :=
 ptrS c fun ad => ∃ t8, Loads P 3 (ad.add 2) (.int .i64 t8) w /\ ∃ t9 : Int, t9 = IntKind.wrap .i64 (t8 * 6364136223846793005) /\ ∃ a0 : Int, a0 = IntKind.wrap .i64 (t9 + 1442695040888963407) /\ ptrS c fun a1 => ∃ wv, Stores P 3 (a1.add 2) (.int .i64 a0) w wv /\
 ptrS c fun a2 => ∃ a3, (∀ wv_1, Ext wv.drew wv_1 -> Loads P 3 (a2.add 2) (.int .i64 a3) wv_1) /\ 0 <= (33 : Int) /\ ∃ a4 : Int, a4 = Int.fdiv a3 (2 ^ (min (33 : Int).toNat (IntKind.bits .i64))) /\ ptrS c fun a5 => ∃ a6, (∀ wv_2, Ext wv.drew wv_2 -> Loads P 3 (a5.add 2) (.int .i64 a6) wv_2) /\ 0 <= (45 : Int) /\ ∃ a7 : Int, a7 = Int.fdiv a6 (2 ^ (min (45 : Int).toNat (IntKind.bits .i64))) /\ ∃ a8 : Int, a8 = IntKind.wrap .i64 (BitVec.ofInt (IntKind.bits .i64) a4 ^^^ BitVec.ofInt (IntKind.bits .i64) a7).toNat /\ ∃ a9 : Int, a9 = IntKind.wrap .i64 (BitVec.ofInt (IntKind.bits .i64) a8 &&& BitVec.ofInt (IntKind.bits .i64) 255).toNat /\ ptrS c fun aa => ∃ ab, (∀ wv_3, Ext wv.drew.drew wv_3 -> Loads P 3 (aa.add 1) (.int .i64 ab) wv_3) /\ ptrS c fun ac => ∃ ae af ag, (∀ wv_4, Ext wv.drew.drew wv_4 -> Loads P 28 (ac.add 0) (.slice ae af ag) wv_4) /\ ((decide ((ab : Int) < ((af : Nat) : Int))) = true ->
 ptrS c fun ah => ∃ ai aj ak, (∀ wv_5, Ext wv.drew.drew.drew wv_5 -> Loads P 28 (ah.add 0) (.slice ai aj ak) wv_5) /\ ptrS c fun al => ∃ am, (∀ wv_6, Ext wv.drew.drew.drew wv_6 -> Loads P 3 (al.add 1) (.int .i64 am) wv_6) /\ (0 <= (am : Int) /\ (am : Int) < (aj : Nat)) /\ ptrS ai fun an => ∃ ao, (∀ wv_7, Ext wv.drew.drew.drew wv_7 -> Loads P 5 (an.add (am.toNat * 1)) (.int .u8 ao) wv_7) /\ ∃ ap : Int, ap = IntKind.wrap .i64 ao /\ ∃ aq : Int, aq = IntKind.wrap .i64 (a9 + ap) /\ ∃ ar : Int, ar = IntKind.wrap .i64 (BitVec.ofInt (IntKind.bits .i64) aq &&& BitVec.ofInt (IntKind.bits .i64) 255).toNat /\ ptrS c fun au => ∃ av, Loads P 3 (au.add 1) (.int .i64 av) wv.drew.drew.drew /\ ∃ aw : Int, aw = IntKind.wrap .i64 (av + 1) /\ ptrS c fun ax => ∃ wv_8, Stores P 3 (ax.add 1) (.int .i64 aw) wv.drew.drew.drew wv_8 /\
 spec_l01Byte_j0 ar wv_8 R) /\
 ((decide ((ab : Int) < ((af : Nat) : Int))) = false ->
 spec_l01Byte_j0 a9 wv.drew.drew R)
theorem spec_l01Byte_ret {c : Option Addr} (h : spec_l01Byte c w R) : Ret P 166 [.pointer c] w R := Ret.of_fsem Tryz.func166 rfl (Eq.mp (show _ = fsem P Tryz.f166 (fun k => []) _ R w from by kernel_rfl) h)
def spec_l01Pick (c a0 : Option Addr) (a1 a2 : Nat) (w : World) (R : Value -> World -> Prop) : Prop :=
 Calls P 83 ⟨[(.pointer c), (.int .i64 ((a1 : Nat) : Int))]⟩ w fun e wv =>
 ∃ t9, e = .returned (.int .i64 t9) /\
 (0 <= (t9 : Int) /\ (t9 : Int) < (a1 : Nat)) /\ ptrS a0 fun ad => ∃ a3, Loads P 3 (ad.add (t9.toNat * 1)) (.int .i64 a3) wv /\ R (.int .i64 a3) wv
theorem spec_l01Pick_ret {c a : Option Addr} {a0 a1 : Nat} (h : spec_l01Pick c a a0 a1 w R) : Ret P 167 [.pointer c, .slice a a0 a1] w R := Ret.of_fsem Tryz.func167 rfl (Eq.mp (show _ = fsem P Tryz.f167 (fun k => []) _ R w from by kernel_rfl) h)
def strings_Join_j0 (a0 : Option Addr) (a1 a2 : Nat) (sep : ByteArray) (n : Int) (W : World) (R : Value -> World -> Prop) : Prop :=
 ∃ (a3 : Int -> Int -> World -> Prop) (mu : Int -> Int -> World -> Nat), a3 n 0 W /\
 ∀ (a4 : Fr) (wv : World) (n_1 a5 : Int), a3 n_1 a5 wv ->
 ((decide ((a5 : Int) < ((a1 : Nat) : Int))) = true ->
 (0 <= (a5 : Int) /\ (a5 : Int) < (a1 : Nat)) /\ ptrS a0 fun a6 => ∃ a7, Loads P 9 (a6.add (a5.toNat * 1)) (.string a7) wv /\ ∃ a8 : Int, a8 = IntKind.wrap .i64 (9223372036854775807 - n_1) /\ ((decide ((a8 : Int) < ((a7.size : Nat) : Int))) = true ->
 False) /\
 ((decide ((a8 : Int) < ((a7.size : Nat) : Int))) = false ->
 ∃ a9 : Int, a9 = IntKind.wrap .i64 (n_1 + ((a7.size : Nat) : Int)) /\ ∃ aa : Int, aa = IntKind.wrap .i64 (a5 + 1) /\ a3 a9 aa wv /\ mu a9 aa wv < mu n_1 a5 wv)) /\
 ((decide ((a5 : Int) < ((a1 : Nat) : Int))) = false ->
 ∀ r ab, New wv (.cells ⟨[(.pointer none), .slice none 0 0]⟩ 248 (0, 0)) r ab ->
 Calls P 226 ⟨[(.pointer (some ⟨r, 0, none⟩)), .int .i64 n_1]⟩ ab fun e ac =>
 e = .returned (.tuple #[]) /\
 (0 <= (0 : Int) /\ (0 : Int) < (a1 : Nat)) /\ ptrS a0 fun ae => ∃ af, Loads P 9 (ae.add (0 * 1)) (.string af) ac /\ Calls P 227 ⟨[(.pointer (some ⟨r, 0, none⟩)), .string af]⟩ ac fun ag ah =>
 ∃ (ai : Int) (aj : Value), ag = .returned (.tuple #[.int .i64 ai, aj]) /\
 (0 <= (1 : Int) /\ (1 : Int) <= (a1 : Nat)) /\ ∃ (ak : Int -> World -> Prop) (al : Int -> World -> Nat), ak 0 ah /\
 ∀ (am : Fr) (an : World) (ao : Int), ak ao an ->
 ((decide ((ao : Int) < (((a1 - 1) : Nat) : Int))) = true ->
 (0 <= (ao : Int) /\ (ao : Int) < ((a1 - 1) : Nat)) /\ ptrS (sub a0 1 a2 1) fun ap => ∃ aq, Loads P 9 (ap.add (ao.toNat * 1)) (.string aq) an /\ Calls P 227 ⟨[(.pointer (some ⟨r, 0, none⟩)), .string sep]⟩ an fun ar au =>
 ∃ (av : Int) (aw : Value), ar = .returned (.tuple #[.int .i64 av, aw]) /\
 Calls P 227 ⟨[(.pointer (some ⟨r, 0, none⟩)), .string aq]⟩ au fun ax ay =>
 ∃ (az : Int) (b0 : Value), ax = .returned (.tuple #[.int .i64 az, b0]) /\
 ∃ b1 : Int, b1 = IntKind.wrap .i64 (ao + 1) /\ ak b1 ay /\ al b1 ay < al ao an) /\
 ((decide ((ao : Int) < (((a1 - 1) : Nat) : Int))) = false ->
 Calls P 228 ⟨[(.pointer (some ⟨r, 0, none⟩))]⟩ an fun b2 b3 =>
 ∃ b4, b2 = .returned (.string b4) /\
 R (.string b4) b3))
def strings_Join (a0 : Option Addr) (a1 a2 : Nat) (sep : ByteArray) (w : World) (R : Value -> World -> Prop) : Prop :=
 ((decide ((((a1 : Nat) : Int) : Int) = 0)) = true ->
 R (.string (S [])) w) /\
 ((decide ((((a1 : Nat) : Int) : Int) = 0)) = false ->
 ((decide ((((a1 : Nat) : Int) : Int) = 1)) = true ->
 (0 <= (0 : Int) /\ (0 : Int) < (a1 : Nat)) /\ ptrS a0 fun ad => ∃ a3, Loads P 9 (ad.add (0 * 1)) (.string a3) w /\ R (.string a3) w) /\
 ((decide ((((a1 : Nat) : Int) : Int) = 1)) = false ->
 ((decide ((0 : Int) < ((sep.size : Nat) : Int))) = true ->
 ∃ a4 : Int, a4 = IntKind.wrap .i64 (((a1 : Nat) : Int) - 1) /\ (a4 : Int) ≠ 0 /\ ∃ a5 : Int, a5 = IntKind.wrap .i64 (Int.tdiv 9223372036854775807 a4) /\ ((decide ((a5 : Int) <= ((sep.size : Nat) : Int))) = true ->
 False) /\
 ((decide ((a5 : Int) <= ((sep.size : Nat) : Int))) = false ->
 ∃ a6 : Int, a6 = IntKind.wrap .i64 (((a1 : Nat) : Int) - 1) /\ ∃ a7 : Int, a7 = IntKind.wrap .i64 (((sep.size : Nat) : Int) * a6) /\ ∃ a8 : Int, a8 = IntKind.wrap .i64 (0 + a7) /\ strings_Join_j0 a0 a1 a2 sep a8 w R)) /\
 ((decide ((0 : Int) < ((sep.size : Nat) : Int))) = false ->
 strings_Join_j0 a0 a1 a2 sep 0 w R)))
def impl_signed (neg : Bool) (a0 : Option Addr) (a1 a2 : Nat) (w : World) (R : Value -> World -> Prop) : Prop :=
 ∀ r wv, New w (.cells ⟨[.bool false, .slice none 0 0]⟩ 31 (0, 0)) r wv ->
 (neg = true ->
 ∃ wv_1, Stores P 31 ⟨r, 0, none⟩ (.agg #[(.bool (decide ((0 : Int) < ((a1 : Nat) : Int)))), .slice a0 a1 a2]) wv wv_1 /\
 ∃ r0 a3 a4 a5, Loads P 31 ⟨r, 0, none⟩ (.agg #[.bool r0, .slice a3 a4 a5]) wv_1 /\ R (.agg #[.bool r0, .slice a3 a4 a5]) wv_1) /\
 (neg = false ->
 ∃ wv_2, Stores P 31 ⟨r, 0, none⟩ (.agg #[.bool false, .slice a0 a1 a2]) wv wv_2 /\
 ∃ r0_1 a6 a7 a8, Loads P 31 ⟨r, 0, none⟩ (.agg #[.bool r0_1, .slice a6 a7 a8]) wv_2 /\ R (.agg #[.bool r0_1, .slice a6 a7 a8]) wv_2)
theorem impl_signed_ret {a : Bool} {a0 : Option Addr} {a1 a2 : Nat} (h : impl_signed a a0 a1 a2 w R) : Ret P 170 [.bool a, .slice a0 a1 a2] w R := Ret.of_fsem Tryz.func170 rfl (Eq.mp (show _ = fsem P Tryz.f170 (fun k => []) _ R w from by kernel_rfl) h)
def impl_natAdd_j1 (a0 : World) (a1 : Option Addr -> Nat -> Nat -> Int -> Int -> World -> Prop) (mu : Option Addr -> Nat -> Nat -> Int -> Int -> World -> Nat) (a2 : Option Addr) (a3 a4 : Nat) (carry i carry_2 : Int) (a5 : World) (R : Value -> World -> Prop) : Prop :=
 (1000000000 : Int) ≠ 0 /\ ∃ a6 : Int, a6 = Int.tmod carry_2 1000000000 /\ ∀ a7 a8, New a5 (.cells ⟨[.int .i64 a6]⟩ 3 (0, 0)) a7 a8 ->
 ∃ a9 aa ab ac, Appends P [29, 29] [.slice a2 a3 a4, (.slice (some ⟨a7, 0, none⟩) 1 1)] (.slice a9 aa ab) a8 ac /\
 (1000000000 : Int) ≠ 0 /\ ∃ ae : Int, ae = IntKind.wrap .i64 (Int.tdiv carry_2 1000000000) /\ ∃ af : Int, af = IntKind.wrap .i64 (i + 1) /\ a1 a9 aa ab ae af ac /\ mu a9 aa ab ae af ac < mu a2 a3 a4 carry i a0
def impl_natAdd_j0 (a0 : Option Addr) (a1 : Nat) (a2 : World) (a3 : Option Addr -> Nat -> Nat -> Int -> Int -> World -> Prop) (mu : Option Addr -> Nat -> Nat -> Int -> Int -> World -> Nat) (a4 : Option Addr) (a5 a6 : Nat) (carry i carry_1 : Int) (W : World) (R : Value -> World -> Prop) : Prop :=
 ((decide ((i : Int) < ((a1 : Nat) : Int))) = true ->
 (0 <= (i : Int) /\ (i : Int) < (a1 : Nat)) /\ ptrS a0 fun a7 => ∃ a8, Loads P 3 (a7.add (i.toNat * 1)) (.int .i64 a8) W /\ ∃ a9 : Int, a9 = IntKind.wrap .i64 (carry_1 + a8) /\ impl_natAdd_j1 a2 a3 mu a4 a5 a6 carry i a9 W R) /\
 ((decide ((i : Int) < ((a1 : Nat) : Int))) = false ->
 impl_natAdd_j1 a2 a3 mu a4 a5 a6 carry i carry_1 W R)
def impl_natAdd (a0 : Option Addr) (a1 a2 : Nat) (a3 : Option Addr) (a4 a5 : Nat) (w : World) (R : Value -> World -> Prop) : Prop :=
 ∃ a6 : Int, a6 = (if ((a4 : Nat) : Int) > ((a1 : Nat) : Int) then ((a4 : Nat) : Int) else ((a1 : Nat) : Int)) /\ ∃ a7 : Int, a7 = IntKind.wrap .i64 (a6 + 1) /\ (0 <= (0 : Int) /\ (0 : Int) <= a7 /\ ((8 : Nat) : Int) * a7 <= 281474976710656) /\
 ∀ r wv, New w (.cells ⟨zeroRow (.int .i64 0) (a7.toNat * 1)⟩ 3 (0, 0)) r wv ->
 ∃ (a8 : Option Addr -> Nat -> Nat -> Int -> Int -> World -> Prop) (mu : Option Addr -> Nat -> Nat -> Int -> Int -> World -> Nat), a8 (some ⟨r, 0, none⟩) 0 a7.toNat 0 0 wv /\
 ∀ (a9 : Fr) (aa : World) (ab : Option Addr) (ac ae : Nat) (carry i : Int), a8 ab ac ae carry i aa ->
 ∃ af : Int, af = (if ((a4 : Nat) : Int) > ((a1 : Nat) : Int) then ((a4 : Nat) : Int) else ((a1 : Nat) : Int)) /\ ((decide ((i : Int) < af)) = true ->
 ((decide ((i : Int) < ((a1 : Nat) : Int))) = true ->
 (0 <= (i : Int) /\ (i : Int) < (a1 : Nat)) /\ ptrS a0 fun ad => ∃ ag, Loads P 3 (ad.add (i.toNat * 1)) (.int .i64 ag) aa /\ ∃ ah : Int, ah = IntKind.wrap .i64 (carry + ag) /\ impl_natAdd_j0 a3 a4 aa a8 mu ab ac ae carry i ah aa R) /\
 ((decide ((i : Int) < ((a1 : Nat) : Int))) = false ->
 impl_natAdd_j0 a3 a4 aa a8 mu ab ac ae carry i carry aa R)) /\
 ((decide ((i : Int) < af)) = false ->
 ∀ ai aj, New aa (.cells ⟨[.int .i64 carry]⟩ 3 (0, 0)) ai aj ->
 ∃ ak al am an, Appends P [29, 29] [.slice ab ac ae, (.slice (some ⟨ai, 0, none⟩) 1 1)] (.slice ak al am) aj an /\
 Calls P 181 ⟨[.slice ak al am]⟩ an fun e ao =>
 ∃ ap aq ar, e = .returned (.slice ap aq ar) /\
 R (.slice ap aq ar) ao)
theorem impl_natAdd_ret {a : Option Addr} {a0 a1 : Nat} {a2 : Option Addr} {a3 a4 : Nat} (h : impl_natAdd a a0 a1 a2 a3 a4 w R) : Ret P 171 [.slice a a0 a1, .slice a2 a3 a4] w R := Ret.of_fsem Tryz.func171 rfl (Eq.mp (show _ = fsem P Tryz.f171 (fun k => cond (Nat.beq k 5) [(5, .one .slice), (6, .one (.int .i64)), (7, .one (.int .i64))] ([])) _ R w from by kernel_rfl) h)
def impl_sameInts (a0 : Option Addr) (a1 a2 : Nat) (a3 : Option Addr) (a4 a5 : Nat) (w : World) (R : Value -> World -> Prop) : Prop :=
 ((decide ((((a1 : Nat) : Int) : Int) ≠ ((a4 : Nat) : Int))) = true ->
 R (.bool false) w) /\
 ((decide ((((a1 : Nat) : Int) : Int) ≠ ((a4 : Nat) : Int))) = false ->
 ∃ (a6 : Int -> World -> Prop) (mu : Int -> World -> Nat), a6 0 w /\
 ∀ (a7 : Fr) (wv : World) (a8 : Int), a6 a8 wv ->
 ((decide ((a8 : Int) < ((a1 : Nat) : Int))) = true ->
 (0 <= (a8 : Int) /\ (a8 : Int) < (a1 : Nat)) /\ ptrS a0 fun ad => ∃ a9, (∀ wv_1, Ext wv.drew wv_1 -> Loads P 3 (ad.add (a8.toNat * 1)) (.int .i64 a9) wv_1) /\ (0 <= (a8 : Int) /\ (a8 : Int) < (a4 : Nat)) /\ ptrS a3 fun aa => ∃ ab, (∀ wv_2, Ext wv.drew wv_2 -> Loads P 3 (aa.add (a8.toNat * 1)) (.int .i64 ab) wv_2) /\ ((decide ((a9 : Int) ≠ ab)) = true ->
 R (.bool false) wv.drew) /\
 ((decide ((a9 : Int) ≠ ab)) = false ->
 ∃ ac : Int, ac = IntKind.wrap .i64 (a8 + 1) /\ a6 ac wv.drew /\ mu ac wv.drew < mu a8 wv)) /\
 ((decide ((a8 : Int) < ((a1 : Nat) : Int))) = false ->
 R (.bool true) wv))
theorem impl_sameInts_ret {a : Option Addr} {a0 a1 : Nat} {a2 : Option Addr} {a3 a4 : Nat} (h : impl_sameInts a a0 a1 a2 a3 a4 w R) : Ret P 172 [.slice a a0 a1, .slice a2 a3 a4] w R := Ret.of_fsem Tryz.func172 rfl (Eq.mp (show _ = fsem P Tryz.f172 (fun k => cond (Nat.beq k 5) [(13, .one (.int .i64))] ([])) _ R w from by kernel_rfl) h)
def impl_NatOk_j0 (a0 : Option Addr) (a1 : Nat) (W : World) (R : Value -> World -> Prop) : Prop :=
 ∃ (a2 : Int -> World -> Prop) (mu : Int -> World -> Nat), a2 0 W /\
 ∀ (a3 : Fr) (wv : World) (a4 : Int), a2 a4 wv ->
 ((decide ((a4 : Int) < ((a1 : Nat) : Int))) = true ->
 (0 <= (a4 : Int) /\ (a4 : Int) < (a1 : Nat)) /\ ptrS a0 fun ad => ∃ a5, Loads P 3 (ad.add (a4.toNat * 1)) (.int .i64 a5) wv /\ ((decide ((a5 : Int) < 0)) = true ->
 (true = true ->
 R (.bool false) wv) /\
 (true = false ->
 ∃ a6 : Int, a6 = IntKind.wrap .i64 (a4 + 1) /\ a2 a6 wv /\ mu a6 wv < mu a4 wv)) /\
 ((decide ((a5 : Int) < 0)) = false ->
 ((decide ((1000000000 : Int) <= a5)) = true ->
 R (.bool false) wv) /\
 ((decide ((1000000000 : Int) <= a5)) = false ->
 ∃ a7 : Int, a7 = IntKind.wrap .i64 (a4 + 1) /\ a2 a7 wv /\ mu a7 wv < mu a4 wv))) /\
 ((decide ((a4 : Int) < ((a1 : Nat) : Int))) = false ->
 R (.bool true) wv)
def impl_NatOk (a0 : Option Addr) (a1 a2 : Nat) (w : World) (R : Value -> World -> Prop) : Prop :=
 ((decide ((50 : Int) < ((a1 : Nat) : Int))) = true ->
 (true = true ->
 R (.bool false) w) /\
 (true = false ->
 impl_NatOk_j0 a0 a1 w R)) /\
 ((decide ((50 : Int) < ((a1 : Nat) : Int))) = false ->
 ((decide ((0 : Int) < ((a1 : Nat) : Int))) = true ->
 ∃ a3 : Int, a3 = IntKind.wrap .i64 (((a1 : Nat) : Int) - 1) /\ (0 <= (a3 : Int) /\ (a3 : Int) < (a1 : Nat)) /\ ptrS a0 fun a4 => ∃ a5, Loads P 3 (a4.add (a3.toNat * 1)) (.int .i64 a5) w /\ ((decide ((a5 : Int) = 0)) = true ->
 R (.bool false) w) /\
 ((decide ((a5 : Int) = 0)) = false ->
 impl_NatOk_j0 a0 a1 w R)) /\
 ((decide ((0 : Int) < ((a1 : Nat) : Int))) = false ->
 (false = true ->
 R (.bool false) w) /\
 (false = false ->
 impl_NatOk_j0 a0 a1 w R)))
theorem impl_NatOk_ret {a : Option Addr} {a0 a1 : Nat} (h : impl_NatOk a a0 a1 w R) : Ret P 173 [.slice a a0 a1] w R := Ret.of_fsem Tryz.func173 rfl (Eq.mp (show _ = fsem P Tryz.f173 (fun k => cond (Nat.beq k 5) [(24, .one (.int .i64))] ([])) _ R w from by kernel_rfl) h)
def spec_l08Table (w : World) (R : Value -> World -> Prop) : Prop :=
 ∀ r wv, New w (.cells ⟨[(.string (S [65, 85, 68])), (.string (S [48, 51, 54])), .int .i64 2, .int .i64 5, (.string (S [66, 72, 68])), (.string (S [48, 52, 56])), .int .i64 3, .int .i64 5, (.string (S [67, 65, 68])), (.string (S [49, 50, 52])), .int .i64 2, .int .i64 5, (.string (S [67, 72, 70])), (.string (S [55, 53, 54])), .int .i64 2, .int .i64 5, (.string (S [67, 76, 70])), (.string (S [57, 57, 48])), .int .i64 4, .int .i64 1, (.string (S [67, 90, 75])), (.string (S [50, 48, 51])), .int .i64 2, .int .i64 100, (.string (S [68, 75, 75])), (.string (S [50, 48, 56])), .int .i64 2, .int .i64 50, (.string (S [69, 85, 82])), (.string (S [57, 55, 56])), .int .i64 2, .int .i64 1, (.string (S [71, 66, 80])), (.string (S [56, 50, 54])), .int .i64 2, .int .i64 1, (.string (S [72, 85, 70])), (.string (S [51, 52, 56])), .int .i64 2, .int .i64 500, (.string (S [73, 83, 75])), (.string (S [51, 53, 50])), .int .i64 0, .int .i64 1, (.string (S [74, 80, 89])), (.string (S [51, 57, 50])), .int .i64 0, .int .i64 1, (.string (S [75, 82, 87])), (.string (S [52, 49, 48])), .int .i64 0, .int .i64 10, (.string (S [75, 87, 68])), (.string (S [52, 49, 52])), .int .i64 3, .int .i64 5, (.string (S [78, 79, 75])), (.string (S [53, 55, 56])), .int .i64 2, .int .i64 100, (.string (S [78, 90, 68])), (.string (S [53, 53, 52])), .int .i64 2, .int .i64 10, (.string (S [80, 76, 78])), (.string (S [57, 56, 53])), .int .i64 2, .int .i64 1, (.string (S [83, 69, 75])), (.string (S [55, 53, 50])), .int .i64 2, .int .i64 100, (.string (S [84, 78, 68])), (.string (S [55, 56, 56])), .int .i64 3, .int .i64 10, (.string (S [85, 83, 68])), (.string (S [56, 52, 48])), .int .i64 2, .int .i64 1]⟩ 201 (0, 0)) r wv ->
 R (.slice (some ⟨r, 0, none⟩) 20 20) wv
theorem spec_l08Table_ret (h : spec_l08Table w R) : Ret P 174 [] w R := Ret.of_fsem Tryz.func174 rfl (Eq.mp (show _ = fsem P Tryz.f174 (fun k => []) _ R w from by kernel_rfl) h)
def spec_l01Once (c : Option Addr) (n : Int) (w : World) (R : Value -> World -> Prop) : Prop :=
 Calls P 83 ⟨[(.pointer c), .int .i64 n]⟩ w fun e wv =>
 ∃ t7, e = .returned (.int .i64 t7) /\
 R (.bool (decide ((t7 : Int) = 0))) wv
theorem spec_l01Once_ret {c : Option Addr} {n : Int} (h : spec_l01Once c n w R) : Ret P 175 [.pointer c, .int .i64 n] w R := Ret.of_fsem Tryz.func175 rfl (Eq.mp (show _ = fsem P Tryz.f175 (fun k => []) _ R w from by kernel_rfl) h)
def spec_l02Nat (c : Option Addr) (most : Int) (w : World) (R : Value -> World -> Prop) : Prop :=
 ∀ r wv, New w (.cells ⟨[]⟩ 3 (0, 0)) r wv ->
 ∃ a0 : Int, a0 = IntKind.wrap .i64 (most + 1) /\ Calls P 83 ⟨[(.pointer c), .int .i64 a0]⟩ wv fun e a1 =>
 ∃ a2, e = .returned (.int .i64 a2) /\
 ∃ (a3 : Option Addr -> Nat -> Nat -> Int -> World -> Prop) (mu : Option Addr -> Nat -> Nat -> Int -> World -> Nat), a3 (some ⟨r, 0, none⟩) 0 0 a2 a1 /\
 ∀ (a4 : Fr) (a5 : World) (a6 : Option Addr) (a7 a8 : Nat) (n : Int), a3 a6 a7 a8 n a5 ->
 ((decide ((0 : Int) < n)) = true ->
 Calls P 83 ⟨[(.pointer c), .int .i64 1000000000]⟩ a5 fun a9 aa =>
 ∃ ab, a9 = .returned (.int .i64 ab) /\
 Calls P 83 ⟨[(.pointer c), .int .i64 1000000000]⟩ aa fun ac ae =>
 ∃ af, ac = .returned (.int .i64 af) /\
 ∀ ag ah, New ae (.cells ⟨[.int .i64 0, .int .i64 1, .int .i64 2, .int .i64 999999999, .int .i64 500000000, .int .i64 ab, .int .i64 af]⟩ 3 (0, 0)) ag ah ->
 Calls P 167 ⟨[(.pointer c), (.slice (some ⟨ag, 0, none⟩) 7 7)]⟩ ah fun ai aj =>
 ∃ ak, ai = .returned (.int .i64 ak) /\
 ∀ al am, New aj (.cells ⟨[.int .i64 ak]⟩ 3 (0, 0)) al am ->
 ∃ an ao ap aq, Appends P [29, 29] [.slice a6 a7 a8, (.slice (some ⟨al, 0, none⟩) 1 1)] (.slice an ao ap) am aq /\
 ∃ ar : Int, ar = IntKind.wrap .i64 (n - 1) /\ a3 an ao ap ar aq /\ mu an ao ap ar aq < mu a6 a7 a8 n a5) /\
 ((decide ((0 : Int) < n)) = false ->
 Calls P 230 ⟨[.slice a6 a7 a8]⟩ a5 fun au av =>
 ∃ aw ax ay, au = .returned (.slice aw ax ay) /\
 R (.slice aw ax ay) av)
theorem spec_l02Nat_ret {c : Option Addr} {a : Int} (h : spec_l02Nat c a w R) : Ret P 176 [.pointer c, .int .i64 a] w R := Ret.of_fsem Tryz.func176 rfl (Eq.mp (show _ = fsem P Tryz.f176 (fun k => cond (Nat.beq k 4) [(5, .one .slice), (6, .one (.int .i64))] ([])) _ R w from by kernel_rfl) h)
def impl_CurKnown (code : ByteArray) (w : World) (R : Value -> World -> Prop) : Prop :=
 Calls P 229 ⟨[.string code]⟩ w fun e wv =>
 ∃ a0 a1 a2 a3 t7, e = .returned (.tuple #[.agg #[.string a0, .string a1, .int .i64 a2, .int .i64 a3], .bool t7]) /\
 ∀ r a4, New wv (.cells ⟨[.string ByteArray.empty, .string ByteArray.empty, .int .i64 0, .int .i64 0]⟩ 252 (0, 0)) r a4 ->
 ∃ wv_2, Stores P 252 ⟨r, 0, none⟩ (.agg #[.string a0, .string a1, .int .i64 a2, .int .i64 a3]) a4 wv_2 /\
 R (.bool t7) wv_2
theorem impl_CurKnown_ret {a : ByteArray} (h : impl_CurKnown a w R) : Ret P 177 [.string a] w R := Ret.of_fsem Tryz.func177 rfl (Eq.mp (show _ = fsem P Tryz.f177 (fun k => []) _ R w from by kernel_rfl) h)
def impl_RatRest (r0 : Bool) (a0 : Option Addr) (a1 a2 : Nat) (a3 : Option Addr) (a4 a5 : Nat) (m : Int) (w : World) (R : Value -> World -> Prop) : Prop :=
 ∀ r wv, New w (.cells ⟨[.bool r0, .slice a0 a1 a2, .slice a3 a4 a5]⟩ 60 (0, 0)) r wv ->
 ∀ a6 a7, New wv (.cells ⟨[.bool false, .slice none 0 0]⟩ 31 (0, 0)) a6 a7 ->
 ∀ a8 a9, New a7 (.cells ⟨[.bool false, .slice none 0 0, .slice none 0 0]⟩ 60 (0, 0)) a8 a9 ->
 ∃ aa ab ac ae af ag ah, Loads P 60 ⟨r, 0, none⟩ (.agg #[.bool aa, .slice ab ac ae, .slice af ag ah]) a9 /\ Calls P 231 ⟨[.agg #[.bool aa, .slice ab ac ae, .slice af ag ah], .int .i64 m]⟩ a9 fun e ai =>
 ∃ aj ak al am an, e = .returned (.tuple #[.agg #[.bool aj, .slice ak al am], .bool an]) /\
 ∀ ao ap, New ai (.cells ⟨[.bool false, .slice none 0 0]⟩ 31 (0, 0)) ao ap ->
 ∃ wv_5, Stores P 31 ⟨ao, 0, none⟩ (.agg #[.bool aj, .slice ak al am]) ap wv_5 /\
 ((!an) = true ->
 ∃ wv_6, Stores P 31 ⟨a6, 0, none⟩ (.agg #[.bool false, .slice none 0 0]) wv_5 wv_6 /\
 ∃ wv_7, Stores P 60 ⟨a8, 0, none⟩ (.agg #[.bool false, .slice none 0 0, .slice none 0 0]) wv_6 wv_7 /\
 ∃ r0_1 aq ar au, Loads P 31 ⟨a6, 0, none⟩ (.agg #[.bool r0_1, .slice aq ar au]) wv_7 /\ ∃ r0_2 av aw ax ay az b0, Loads P 60 ⟨a8, 0, none⟩ (.agg #[.bool r0_2, .slice av aw ax, .slice ay az b0]) wv_7 /\ R (.tuple #[.agg #[.bool r0_1, .slice aq ar au], .agg #[.bool r0_2, .slice av aw ax, .slice ay az b0], .bool false]) wv_7) /\
 ((!an) = false ->
 ∃ b1 b2 b3 b4, Loads P 31 ⟨ao, 0, none⟩ (.agg #[.bool b1, .slice b2 b3 b4]) wv_5 /\ Calls P 31 ⟨[.agg #[.bool b1, .slice b2 b3 b4]]⟩ wv_5 fun b5 b6 =>
 ∃ b7 b8 b9 ba bb bc bd be, b5 = .returned (.tuple #[.agg #[.bool b7, .slice b8 b9 ba, .slice bb bc bd], .bool be]) /\
 ∀ bf bg, New b6 (.cells ⟨[.bool false, .slice none 0 0, .slice none 0 0]⟩ 60 (0, 0)) bf bg ->
 ∃ wv_10, Stores P 60 ⟨bf, 0, none⟩ (.agg #[.bool b7, .slice b8 b9 ba, .slice bb bc bd]) bg wv_10 /\
 ∃ bh bi bj bk bl bm bn, Loads P 60 ⟨r, 0, none⟩ (.agg #[.bool bh, .slice bi bj bk, .slice bl bm bn]) wv_10 /\ ∃ bo bp bq br bs bt bu, Loads P 60 ⟨bf, 0, none⟩ (.agg #[.bool bo, .slice bp bq br, .slice bs bt bu]) wv_10 /\ Calls P 45 ⟨[.agg #[.bool bh, .slice bi bj bk, .slice bl bm bn], .agg #[.bool bo, .slice bp bq br, .slice bs bt bu]]⟩ wv_10 fun bv bw =>
 ∃ bx bz c0 c1 c2 c3 c4 c5, bv = .returned (.tuple #[.agg #[.bool bx, .slice bz c0 c1, .slice c2 c3 c4], .bool c5]) /\
 ∀ c6 c7, New bw (.cells ⟨[.bool false, .slice none 0 0, .slice none 0 0]⟩ 60 (0, 0)) c6 c7 ->
 ∃ wv_13, Stores P 60 ⟨c6, 0, none⟩ (.agg #[.bool bx, .slice bz c0 c1, .slice c2 c3 c4]) c7 wv_13 /\
 ((!be) = true ->
 (true = true ->
 ∃ wv_14, Stores P 31 ⟨a6, 0, none⟩ (.agg #[.bool false, .slice none 0 0]) wv_13 wv_14 /\
 ∃ wv_15, Stores P 60 ⟨a8, 0, none⟩ (.agg #[.bool false, .slice none 0 0, .slice none 0 0]) wv_14 wv_15 /\
 ∃ r0_3 c8 c9 ca, Loads P 31 ⟨a6, 0, none⟩ (.agg #[.bool r0_3, .slice c8 c9 ca]) wv_15 /\ ∃ r0_4 cb cc cd ce cf cg, Loads P 60 ⟨a8, 0, none⟩ (.agg #[.bool r0_4, .slice cb cc cd, .slice ce cf cg]) wv_15 /\ R (.tuple #[.agg #[.bool r0_3, .slice c8 c9 ca], .agg #[.bool r0_4, .slice cb cc cd, .slice ce cf cg], .bool false]) wv_15) /\
 (true = false ->
 ∃ blks : List Nat, ∃ ch ci cj ck, (∀ wv_16, EX blks wv_13.drew wv_16 -> Loads P 31 ⟨ao, 0, none⟩ (.agg #[.bool ch, .slice ci cj ck]) wv_16) /\ ∃ cl cm cn co cp cq cr, (∀ wv_17, EX blks wv_13.drew wv_17 -> Loads P 60 ⟨c6, 0, none⟩ (.agg #[.bool cl, .slice cm cn co, .slice cp cq cr]) wv_17) /\ ∃ wv_18, Stores P 31 ⟨a6, 0, none⟩ (.agg #[.bool ch, .slice ci cj ck]) wv_13.drew wv_18 /\
 EX blks wv_13.drew wv_18 /\ ∃ wv_19, Stores P 60 ⟨a8, 0, none⟩ (.agg #[.bool cl, .slice cm cn co, .slice cp cq cr]) wv_18 wv_19 /\
 ∃ r0_5 cs ct cu, Loads P 31 ⟨a6, 0, none⟩ (.agg #[.bool r0_5, .slice cs ct cu]) wv_19 /\ ∃ r0_6 cv cw cx cy cz d0, Loads P 60 ⟨a8, 0, none⟩ (.agg #[.bool r0_6, .slice cv cw cx, .slice cy cz d0]) wv_19 /\ R (.tuple #[.agg #[.bool r0_5, .slice cs ct cu], .agg #[.bool r0_6, .slice cv cw cx, .slice cy cz d0], .bool true]) wv_19)) /\
 ((!be) = false ->
 ((!c5) = true ->
 ∃ wv_20, Stores P 31 ⟨a6, 0, none⟩ (.agg #[.bool false, .slice none 0 0]) wv_13 wv_20 /\
 ∃ wv_21, Stores P 60 ⟨a8, 0, none⟩ (.agg #[.bool false, .slice none 0 0, .slice none 0 0]) wv_20 wv_21 /\
 ∃ r0_7 d1 d2 d3, Loads P 31 ⟨a6, 0, none⟩ (.agg #[.bool r0_7, .slice d1 d2 d3]) wv_21 /\ ∃ r0_8 d4 d5 d6 d7 d8 d9, Loads P 60 ⟨a8, 0, none⟩ (.agg #[.bool r0_8, .slice d4 d5 d6, .slice d7 d8 d9]) wv_21 /\ R (.tuple #[.agg #[.bool r0_7, .slice d1 d2 d3], .agg #[.bool r0_8, .slice d4 d5 d6, .slice d7 d8 d9], .bool false]) wv_21) /\
 ((!c5) = false ->
 ∃ blks_1 : List Nat, ∃ da db dc dd, (∀ wv_22, EX blks_1 wv_13.drew wv_22 -> Loads P 31 ⟨ao, 0, none⟩ (.agg #[.bool da, .slice db dc dd]) wv_22) /\ ∃ de df dg dh di dj dk, (∀ wv_23, EX blks_1 wv_13.drew wv_23 -> Loads P 60 ⟨c6, 0, none⟩ (.agg #[.bool de, .slice df dg dh, .slice di dj dk]) wv_23) /\ ∃ wv_24, Stores P 31 ⟨a6, 0, none⟩ (.agg #[.bool da, .slice db dc dd]) wv_13.drew wv_24 /\
 EX blks_1 wv_13.drew wv_24 /\ ∃ wv_25, Stores P 60 ⟨a8, 0, none⟩ (.agg #[.bool de, .slice df dg dh, .slice di dj dk]) wv_24 wv_25 /\
 ∃ r0_9 dl dm dn, Loads P 31 ⟨a6, 0, none⟩ (.agg #[.bool r0_9, .slice dl dm dn]) wv_25 /\ ∃ r0_10 dp dq dr ds dt du, Loads P 60 ⟨a8, 0, none⟩ (.agg #[.bool r0_10, .slice dp dq dr, .slice ds dt du]) wv_25 /\ R (.tuple #[.agg #[.bool r0_9, .slice dl dm dn], .agg #[.bool r0_10, .slice dp dq dr, .slice ds dt du], .bool true]) wv_25)))
theorem impl_RatRest_ret {r0 : Bool} {a : Option Addr} {a0 a1 : Nat} {a2 : Option Addr} {a3 a4 : Nat} {m : Int} (h : impl_RatRest r0 a a0 a1 a2 a3 a4 m w R) : Ret P 178 [.agg #[.bool r0, .slice a a0 a1, .slice a2 a3 a4], .int .i64 m] w R := Ret.of_fsem Tryz.func178 rfl (Eq.mp (show _ = fsem P Tryz.f178 (fun k => []) _ R w from by kernel_rfl) h)
def impl_natGcd (a0 : Option Addr) (a1 a2 : Nat) (a3 : Option Addr) (a4 a5 : Nat) (w : World) (R : Value -> World -> Prop) : Prop :=
 ∃ (a6 : Option Addr -> Nat -> Nat -> Option Addr -> Nat -> Nat -> World -> Prop) (mu : Option Addr -> Nat -> Nat -> Option Addr -> Nat -> Nat -> World -> Nat), a6 a0 a1 a2 a3 a4 a5 w /\
 ∀ (a7 : Fr) (wv : World) (a8 : Option Addr) (a9 aa : Nat) (ab : Option Addr) (ac ae : Nat), a6 a8 a9 aa ab ac ae wv ->
 ((decide ((0 : Int) < ((ac : Nat) : Int))) = true ->
 Calls P 180 ⟨[.slice a8 a9 aa, .slice ab ac ae]⟩ wv fun e af =>
 ∃ ag ah ai aj ak al, e = .returned (.tuple #[.slice ag ah ai, .slice aj ak al]) /\
 a6 ab ac ae aj ak al af /\ mu ab ac ae aj ak al af < mu a8 a9 aa ab ac ae wv) /\
 ((decide ((0 : Int) < ((ac : Nat) : Int))) = false ->
 Calls P 183 ⟨[.slice a8 a9 aa]⟩ wv fun am an =>
 ∃ ao ap aq, am = .returned (.slice ao ap aq) /\
 R (.slice ao ap aq) an)
theorem impl_natGcd_ret {a : Option Addr} {a0 a1 : Nat} {a2 : Option Addr} {a3 a4 : Nat} (h : impl_natGcd a a0 a1 a2 a3 a4 w R) : Ret P 179 [.slice a a0 a1, .slice a2 a3 a4] w R := Ret.of_fsem Tryz.func179 rfl (Eq.mp (show _ = fsem P Tryz.f179 (fun k => cond (Nat.beq k 2) [(0, .one .slice), (1, .one .slice)] ([])) _ R w from by kernel_rfl) h)
def impl_natDiv (a0 : Option Addr) (a1 a2 : Nat) (a3 : Option Addr) (a4 a5 : Nat) (w : World) (R : Value -> World -> Prop) : Prop :=
 Calls P 127 ⟨[.slice a0 a1 a2, .slice a3 a4 a5]⟩ w fun e wv =>
 ∃ a6, e = .returned (.int .i64 a6) /\
 ((decide ((a6 : Int) < 0)) = true ->
 ∀ r a7, New wv (.cells ⟨[]⟩ 3 (0, 0)) r a7 ->
 Calls P 183 ⟨[.slice a0 a1 a2]⟩ a7 fun a8 a9 =>
 ∃ aa ab ac, a8 = .returned (.slice aa ab ac) /\
 R (.tuple #[(.slice (some ⟨r, 0, none⟩) 0 0), .slice aa ab ac]) a9) /\
 ((decide ((a6 : Int) < 0)) = false ->
 ((decide ((((a4 : Nat) : Int) : Int) = 1)) = true ->
 (0 <= (0 : Int) /\ (0 : Int) < (a4 : Nat)) /\ ptrS a3 fun ad => ∃ ae, Loads P 3 (ad.add (0 * 1)) (.int .i64 ae) wv /\ Calls P 185 ⟨[.slice a0 a1 a2, .int .i64 ae]⟩ wv fun af ag =>
 ∃ ah ai aj ak, af = .returned (.tuple #[.slice ah ai aj, .int .i64 ak]) /\
 Calls P 128 ⟨[.int .i64 ak]⟩ ag fun al am =>
 ∃ an ao ap, al = .returned (.slice an ao ap) /\
 R (.tuple #[.slice ah ai aj, .slice an ao ap]) am) /\
 ((decide ((((a4 : Nat) : Int) : Int) = 1)) = false ->
 ∃ aq : Int, aq = IntKind.wrap .i64 (((a4 : Nat) : Int) - 1) /\ (0 <= (aq : Int) /\ (aq : Int) < (a4 : Nat)) /\ ptrS a3 fun ar => ∃ au, Loads P 3 (ar.add (aq.toNat * 1)) (.int .i64 au) wv /\ ∃ av : Int, av = IntKind.wrap .i64 (au + 1) /\ (av : Int) ≠ 0 /\ ∃ aw : Int, aw = IntKind.wrap .i64 (Int.tdiv 1000000000 av) /\ ∀ ax ay, New wv (.cells ⟨[.int .i64 aw]⟩ 3 (0, 0)) ax ay ->
 Calls P 109 ⟨[.slice a0 a1 a2, (.slice (some ⟨ax, 0, none⟩) 1 1)]⟩ ay fun az b0 =>
 ∃ b1 b2 b3, az = .returned (.slice b1 b2 b3) /\
 ∀ b4 b5, New b0 (.cells ⟨[.int .i64 aw]⟩ 3 (0, 0)) b4 b5 ->
 Calls P 109 ⟨[.slice a3 a4 a5, (.slice (some ⟨b4, 0, none⟩) 1 1)]⟩ b5 fun b6 b7 =>
 ∃ b8 b9 ba, b6 = .returned (.slice b8 b9 ba) /\
 ∃ (bb : Option Addr -> Nat -> Nat -> World -> Prop) (mu : Option Addr -> Nat -> Nat -> World -> Nat), bb b1 b2 b3 b7 /\
 ∀ (bc : Fr) (bd : World) (be : Option Addr) (bf bg : Nat), bb be bf bg bd ->
 ((decide ((((bf : Nat) : Int) : Int) <= ((a1 : Nat) : Int))) = true ->
 ∀ bh bi, New bd (.cells ⟨[.int .i64 0]⟩ 3 (0, 0)) bh bi ->
 ∃ bj bk bl bm, Appends P [29, 29] [.slice be bf bg, (.slice (some ⟨bh, 0, none⟩) 1 1)] (.slice bj bk bl) bi bm /\
 bb bj bk bl bm /\ mu bj bk bl bm < mu be bf bg bd) /\
 ((decide ((((bf : Nat) : Int) : Int) <= ((a1 : Nat) : Int))) = false ->
 ∃ bn : Int, bn = IntKind.wrap .i64 (((bf : Nat) : Int) - ((b9 : Nat) : Int)) /\ (0 <= (bn : Int) /\ (bn : Int) <= bn /\ ((8 : Nat) : Int) * bn <= 281474976710656) /\
 ∀ bo bp, New bd (.cells ⟨zeroRow (.int .i64 0) (bn.toNat * 1)⟩ 3 (0, 0)) bo bp ->
 ∃ bq : Int, bq = IntKind.wrap .i64 (((bn.toNat : Nat) : Int) - 1) /\ ∃ (br : Int -> World -> Prop) (bs : Int -> World -> Nat), br bq bp /\
 ∀ (bt : Fr) (bu : World) (j : Int), br j bu ->
 ((decide ((0 : Int) <= j)) = true ->
 ∃ bv : Int, bv = IntKind.wrap .i64 (j + ((b9 : Nat) : Int)) /\ ∃ bw : Int, bw = IntKind.wrap .i64 (bv + 1) /\ (0 <= (bw : Int) /\ (bw : Int) <= (bg : Nat)) /\ (0 <= (j : Int) /\ (j : Int) <= (bw.toNat : Nat)) /\ Calls P 232 ⟨[(.slice (sub be j.toNat bg 1) (bw.toNat - j.toNat) (bg - j.toNat)), .slice b8 b9 ba]⟩ bu fun bx bz =>
 ∃ c0, bx = .returned (.int .i64 c0) /\
 (0 <= (j : Int) /\ (j : Int) < (bn.toNat : Nat)) /\ ∃ wv_15, Stores P 3 ((⟨bo, 0, none⟩ : Addr).add (j.toNat * 1)) (.int .i64 c0) bz wv_15 /\
 ∃ c1 : Int, c1 = IntKind.wrap .i64 (j - 1) /\ br c1 wv_15 /\ bs c1 wv_15 < bs j bu) /\
 ((decide ((0 : Int) <= j)) = false ->
 Calls P 181 ⟨[.slice be bf bg]⟩ bu fun c2 c3 =>
 ∃ c4 c5 c6, c2 = .returned (.slice c4 c5 c6) /\
 Calls P 185 ⟨[.slice c4 c5 c6, .int .i64 aw]⟩ c3 fun c7 c8 =>
 ∃ c9 ca cb cc, c7 = .returned (.tuple #[.slice c9 ca cb, .int .i64 cc]) /\
 Calls P 181 ⟨[(.slice (some ⟨bo, 0, none⟩) bn.toNat bn.toNat)]⟩ c8 fun cd ce =>
 ∃ cf cg ch, cd = .returned (.slice cf cg ch) /\
 R (.tuple #[.slice cf cg ch, .slice c9 ca cb]) ce))))
theorem impl_natDiv_ret {a : Option Addr} {a0 a1 : Nat} {a2 : Option Addr} {a3 a4 : Nat} (h : impl_natDiv a a0 a1 a2 a3 a4 w R) : Ret P 180 [.slice a a0 a1, .slice a2 a3 a4] w R := Ret.of_fsem Tryz.func180 rfl (Eq.mp (show _ = fsem P Tryz.f180 (fun k => cond (Nat.beq k 10) [(9, .one .slice)] (cond (Nat.beq k 15) [(13, .one (.int .i64))] ([]))) _ R w from by kernel_rfl) h)
def impl_trim (a0 : Option Addr) (a1 a2 : Nat) (w : World) (R : Value -> World -> Prop) : Prop :=
 ∃ (a3 : Option Addr -> Nat -> Nat -> World -> Prop) (mu : Option Addr -> Nat -> Nat -> World -> Nat), a3 a0 a1 a2 w /\
 ∀ (a4 : Fr) (wv : World) (a5 : Option Addr) (a6 a7 : Nat), a3 a5 a6 a7 wv ->
 ((decide ((0 : Int) < ((a6 : Nat) : Int))) = true ->
 ∃ a8 : Int, a8 = IntKind.wrap .i64 (((a6 : Nat) : Int) - 1) /\ (0 <= (a8 : Int) /\ (a8 : Int) < (a6 : Nat)) /\ ptrS a5 fun ad => ∃ a9, Loads P 3 (ad.add (a8.toNat * 1)) (.int .i64 a9) wv /\ ((decide ((a9 : Int) = 0)) = true ->
 ∃ aa : Int, aa = IntKind.wrap .i64 (((a6 : Nat) : Int) - 1) /\ (0 <= (aa : Int) /\ (aa : Int) <= (a7 : Nat)) /\ a3 (sub a5 0 a7 1) (aa.toNat - 0) (a7 - 0) wv /\ mu (sub a5 0 a7 1) (aa.toNat - 0) (a7 - 0) wv < mu a5 a6 a7 wv) /\
 ((decide ((a9 : Int) = 0)) = false ->
 R (.slice a5 a6 a7) wv)) /\
 ((decide ((0 : Int) < ((a6 : Nat) : Int))) = false ->
 (false = true ->
 ∃ ab : Int, ab = IntKind.wrap .i64 (((a6 : Nat) : Int) - 1) /\ (0 <= (ab : Int) /\ (ab : Int) <= (a7 : Nat)) /\ a3 (sub a5 0 a7 1) (ab.toNat - 0) (a7 - 0) wv /\ mu (sub a5 0 a7 1) (ab.toNat - 0) (a7 - 0) wv < mu a5 a6 a7 wv) /\
 (false = false ->
 R (.slice a5 a6 a7) wv))
theorem impl_trim_ret {a : Option Addr} {a0 a1 : Nat} (h : impl_trim a a0 a1 w R) : Ret P 181 [.slice a a0 a1] w R := Ret.of_fsem Tryz.func181 rfl (Eq.mp (show _ = fsem P Tryz.f181 (fun k => cond (Nat.beq k 2) [(0, .one .slice)] ([])) _ R w from by kernel_rfl) h)
def impl_isScale (scale : Int) (w : World) (R : Value -> World -> Prop) : Prop :=
 ((decide ((0 : Int) <= scale)) = true ->
 R (.bool (decide ((scale : Int) <= 30))) w) /\
 ((decide ((0 : Int) <= scale)) = false ->
 R (.bool false) w)
theorem impl_isScale_ret {a : Int} (h : impl_isScale a w R) : Ret P 182 [.int .i64 a] w R := Ret.of_fsem Tryz.func182 rfl (Eq.mp (show _ = fsem P Tryz.f182 (fun k => []) _ R w from by kernel_rfl) h)
def impl_natCopy (a0 : Option Addr) (a1 a2 : Nat) (w : World) (R : Value -> World -> Prop) : Prop :=
 ∀ r wv, New w (.cells ⟨[]⟩ 3 (0, 0)) r wv ->
 ∃ a3 a4 a5 a6, Appends P [29, 29] [(.slice (some ⟨r, 0, none⟩) 0 0), .slice a0 a1 a2] (.slice a3 a4 a5) wv a6 /\
 R (.slice a3 a4 a5) a6
theorem impl_natCopy_ret {a : Option Addr} {a0 a1 : Nat} (h : impl_natCopy a a0 a1 w R) : Ret P 183 [.slice a a0 a1] w R := Ret.of_fsem Tryz.func183 rfl (Eq.mp (show _ = fsem P Tryz.f183 (fun k => []) _ R w from by kernel_rfl) h)
def impl_TextNat_j0 (s : ByteArray) (W : World) (R : Value -> World -> Prop) : Prop :=
 ∀ r a0, New W (.cells ⟨[]⟩ 3 (0, 0)) r a0 ->
 ∃ (a1 : Option Addr -> Nat -> Nat -> Int -> World -> Prop) (mu : Option Addr -> Nat -> Nat -> Int -> World -> Nat), a1 (some ⟨r, 0, none⟩) 0 0 ((s.size : Nat) : Int) a0 /\
 ∀ (a2 : Fr) (a3 : World) (a4 : Option Addr) (a5 a6 : Nat) (endv : Int), a1 a4 a5 a6 endv a3 ->
 ((decide ((0 : Int) < endv)) = true ->
 ∃ a7 : Int, a7 = IntKind.wrap .i64 (endv - 9) /\ ∃ a8 : Int, a8 = (if a7 > 0 then a7 else 0) /\ (0 <= (endv : Int) /\ (endv : Int) <= (s.size : Nat)) /\ (0 <= (a8 : Int) /\ (a8 : Int) <= (endv.toNat : Nat)) /\ ∃ a9 aa ab, ∃ wv_3, ConvsTo P 9 28 (.string (s.extract a8.toNat endv.toNat)) (.slice a9 aa ab) a3 wv_3 /\
 ∃ (ac : Int -> Int -> World -> Prop) (ae : Int -> Int -> World -> Nat), ac 0 0 wv_3 /\
 ∀ (af : Fr) (ag : World) (limb ah : Int), ac limb ah ag ->
 ((decide ((ah : Int) < ((aa : Nat) : Int))) = true ->
 (0 <= (ah : Int) /\ (ah : Int) < (aa : Nat)) /\ ptrS a9 fun ad => ∃ ai, Loads P 5 (ad.add (ah.toNat * 1)) (.int .u8 ai) ag /\ ∃ aj : Int, aj = IntKind.wrap .i64 (10 * limb) /\ ∃ ak : Int, ak = IntKind.wrap .u8 (ai - 48) /\ ∃ al : Int, al = IntKind.wrap .i64 ak /\ ∃ am : Int, am = IntKind.wrap .i64 (aj + al) /\ ∃ an : Int, an = IntKind.wrap .i64 (ah + 1) /\ ac am an ag /\ ae am an ag < ae limb ah ag) /\
 ((decide ((ah : Int) < ((aa : Nat) : Int))) = false ->
 ∀ ao ap, New ag (.cells ⟨[.int .i64 limb]⟩ 3 (0, 0)) ao ap ->
 ∃ aq ar au av, Appends P [29, 29] [.slice a4 a5 a6, (.slice (some ⟨ao, 0, none⟩) 1 1)] (.slice aq ar au) ap av /\
 ∃ aw : Int, aw = IntKind.wrap .i64 (endv - 9) /\ a1 aq ar au aw av /\ mu aq ar au aw av < mu a4 a5 a6 endv a3)) /\
 ((decide ((0 : Int) < endv)) = false ->
 Calls P 181 ⟨[.slice a4 a5 a6]⟩ a3 fun ax ay =>
 ∃ az b0 b1, ax = .returned (.slice az b0 b1) /\
 R (.tuple #[.slice az b0 b1, .bool true]) ay)
def impl_TextNat (s : ByteArray) (w : World) (R : Value -> World -> Prop) : Prop :=
 Calls P 233 ⟨[.string s]⟩ w fun e wv =>
 ∃ a0, e = .returned (.bool a0) /\
 ((!a0) = true ->
 (true = true ->
 (true = true ->
 R (.tuple #[.slice none 0 0, .bool false]) wv) /\
 (true = false ->
 impl_TextNat_j0 s wv R)) /\
 (true = false ->
 0 <= (0 : Int) /\ ∃ b : UInt8, s[0]? = some b /\ ((decide ((((b.toNat : Nat) : Int) : Int) = 48)) = true ->
 ((decide ((1 : Int) < ((s.size : Nat) : Int))) = true ->
 R (.tuple #[.slice none 0 0, .bool false]) wv) /\
 ((decide ((1 : Int) < ((s.size : Nat) : Int))) = false ->
 impl_TextNat_j0 s wv R)) /\
 ((decide ((((b.toNat : Nat) : Int) : Int) = 48)) = false ->
 (false = true ->
 R (.tuple #[.slice none 0 0, .bool false]) wv) /\
 (false = false ->
 impl_TextNat_j0 s wv R)))) /\
 ((!a0) = false ->
 ((decide ((450 : Int) < ((s.size : Nat) : Int))) = true ->
 (true = true ->
 R (.tuple #[.slice none 0 0, .bool false]) wv) /\
 (true = false ->
 impl_TextNat_j0 s wv R)) /\
 ((decide ((450 : Int) < ((s.size : Nat) : Int))) = false ->
 0 <= (0 : Int) /\ ∃ a1 : UInt8, s[0]? = some a1 /\ ((decide ((((a1.toNat : Nat) : Int) : Int) = 48)) = true ->
 ((decide ((1 : Int) < ((s.size : Nat) : Int))) = true ->
 R (.tuple #[.slice none 0 0, .bool false]) wv) /\
 ((decide ((1 : Int) < ((s.size : Nat) : Int))) = false ->
 impl_TextNat_j0 s wv R)) /\
 ((decide ((((a1.toNat : Nat) : Int) : Int) = 48)) = false ->
 (false = true ->
 R (.tuple #[.slice none 0 0, .bool false]) wv) /\
 (false = false ->
 impl_TextNat_j0 s wv R))))
theorem impl_TextNat_ret {s : ByteArray} (h : impl_TextNat s w R) : Ret P 184 [.string s] w R := Ret.of_fsem Tryz.func184 rfl (Eq.mp (show _ = fsem P Tryz.f184 (fun k => cond (Nat.beq k 6) [(4, .one .slice), (5, .one (.int .i64))] (cond (Nat.beq k 10) [(6, .one (.int .i64)), (42, .one (.int .i64))] ([]))) _ R w from by kernel_rfl) h)
def impl_natSmall (a0 : Option Addr) (a1 a2 : Nat) (d : Int) (w : World) (R : Value -> World -> Prop) : Prop :=
 (0 <= (((a1 : Nat) : Int) : Int) /\ (((a1 : Nat) : Int) : Int) <= ((a1 : Nat) : Int) /\ ((8 : Nat) : Int) * ((a1 : Nat) : Int) <= 281474976710656) /\
 ∀ r wv, New w (.cells ⟨zeroRow (.int .i64 0) (a1 * 1)⟩ 3 (0, 0)) r wv ->
 ∃ a3 : Int, a3 = IntKind.wrap .i64 (((a1 : Nat) : Int) - 1) /\ ∃ (a4 : Int -> Int -> World -> Prop) (mu : Int -> Int -> World -> Nat), a4 0 a3 wv /\
 ∀ (a5 : Fr) (a6 : World) (rest i : Int), a4 rest i a6 ->
 ((decide ((0 : Int) <= i)) = true ->
 ∃ a7 : Int, a7 = IntKind.wrap .i64 (rest * 1000000000) /\ (0 <= (i : Int) /\ (i : Int) < (a1 : Nat)) /\ ptrS a0 fun ad => ∃ a8, Loads P 3 (ad.add (i.toNat * 1)) (.int .i64 a8) a6 /\ ∃ a9 : Int, a9 = IntKind.wrap .i64 (a7 + a8) /\ (d : Int) ≠ 0 /\ ∃ aa : Int, aa = IntKind.wrap .i64 (Int.tdiv a9 d) /\ (0 <= (i : Int) /\ (i : Int) < (a1 : Nat)) /\ ∃ wv_2, Stores P 3 ((⟨r, 0, none⟩ : Addr).add (i.toNat * 1)) (.int .i64 aa) a6 wv_2 /\
 (d : Int) ≠ 0 /\ ∃ ab : Int, ab = Int.tmod a9 d /\ ∃ ac : Int, ac = IntKind.wrap .i64 (i - 1) /\ a4 ab ac wv_2 /\ mu ab ac wv_2 < mu rest i a6) /\
 ((decide ((0 : Int) <= i)) = false ->
 Calls P 181 ⟨[(.slice (some ⟨r, 0, none⟩) a1 a1)]⟩ a6 fun e ae =>
 ∃ af ag ah, e = .returned (.slice af ag ah) /\
 R (.tuple #[.slice af ag ah, .int .i64 rest]) ae)
theorem impl_natSmall_ret {a : Option Addr} {a0 a1 : Nat} {d : Int} (h : impl_natSmall a a0 a1 d w R) : Ret P 185 [.slice a a0 a1, .int .i64 d] w R := Ret.of_fsem Tryz.func185 rfl (Eq.mp (show _ = fsem P Tryz.f185 (fun k => cond (Nat.beq k 5) [(7, .one (.int .i64)), (8, .one (.int .i64))] ([])) _ R w from by kernel_rfl) h)
def impl_decOf (num0 : Bool) (a0 : Option Addr) (a1 a2 : Nat) (scale : Int) (w : World) (R : Value -> World -> Prop) : Prop :=
 ∀ r wv, New w (.cells ⟨[.bool num0, .slice a0 a1 a2]⟩ 31 (0, 0)) r wv ->
 ∀ a3 a4, New wv (.cells ⟨[.bool false, .slice none 0 0, .int .i64 0]⟩ 36 (0, 0)) a3 a4 ->
 ∃ a5 a6 a7 a8, Loads P 31 ⟨r, 0, none⟩ (.agg #[.bool a5, .slice a6 a7 a8]) a4 /\ ∀ a9 aa, New a4 (.cells ⟨[.bool false, .slice none 0 0, .int .i64 0]⟩ 36 (0, 0)) a9 aa ->
 ∃ wv_3, Stores P 36 ⟨a9, 0, none⟩ (.agg #[.bool a5, .slice a6 a7 a8, .int .i64 scale]) aa wv_3 /\
 ∃ ab ac ae af ag, Loads P 36 ⟨a9, 0, none⟩ (.agg #[.bool ab, .slice ac ae af, .int .i64 ag]) wv_3 /\ Calls P 112 ⟨[.agg #[.bool ab, .slice ac ae af, .int .i64 ag]]⟩ wv_3 fun e ah =>
 ∃ ai, e = .returned (.bool ai) /\
 (ai = true ->
 ∃ aj ak al am an, Loads P 36 ⟨a9, 0, none⟩ (.agg #[.bool aj, .slice ak al am, .int .i64 an]) ah /\ ∃ wv_5, Stores P 36 ⟨a3, 0, none⟩ (.agg #[.bool aj, .slice ak al am, .int .i64 an]) ah wv_5 /\
 ∃ r0 ao ap aq r2, Loads P 36 ⟨a3, 0, none⟩ (.agg #[.bool r0, .slice ao ap aq, .int .i64 r2]) wv_5 /\ R (.tuple #[.agg #[.bool r0, .slice ao ap aq, .int .i64 r2], .bool true]) wv_5) /\
 (ai = false ->
 ∃ wv_6, Stores P 36 ⟨a3, 0, none⟩ (.agg #[.bool false, .slice none 0 0, .int .i64 0]) ah wv_6 /\
 ∃ r0_1 ar au av r2_1, Loads P 36 ⟨a3, 0, none⟩ (.agg #[.bool r0_1, .slice ar au av, .int .i64 r2_1]) wv_6 /\ R (.tuple #[.agg #[.bool r0_1, .slice ar au av, .int .i64 r2_1], .bool false]) wv_6)
theorem impl_decOf_ret {a : Bool} {a0 : Option Addr} {a1 a2 : Nat} {a3 : Int} (h : impl_decOf a a0 a1 a2 a3 w R) : Ret P 186 [.agg #[.bool a, .slice a0 a1 a2], .int .i64 a3] w R := Ret.of_fsem Tryz.func186 rfl (Eq.mp (show _ = fsem P Tryz.f186 (fun k => []) _ R w from by kernel_rfl) h)
def impl_Pad (s : ByteArray) (n : Int) (w : World) (R : Value -> World -> Prop) : Prop :=
 ((decide ((n : Int) <= ((s.size : Nat) : Int))) = true ->
 (true = true ->
 R (.string s) w) /\
 (true = false ->
 ∃ a0 : Int, a0 = IntKind.wrap .i64 (n - ((s.size : Nat) : Int)) /\ Calls P 234 ⟨[(.string (S [48])), .int .i64 a0]⟩ w fun e wv =>
 ∃ a1, e = .returned (.string a1) /\
 a1.size + s.size <= 9223372036854775807 /\ ∃ a2 : ByteArray, a2 = a1 ++ s /\ R (.string a2) wv)) /\
 ((decide ((n : Int) <= ((s.size : Nat) : Int))) = false ->
 ((decide ((2000 : Int) < n)) = true ->
 R (.string s) w) /\
 ((decide ((2000 : Int) < n)) = false ->
 ∃ a3 : Int, a3 = IntKind.wrap .i64 (n - ((s.size : Nat) : Int)) /\ Calls P 234 ⟨[(.string (S [48])), .int .i64 a3]⟩ w fun a4 a5 =>
 ∃ a6, a4 = .returned (.string a6) /\
 a6.size + s.size <= 9223372036854775807 /\ ∃ a7 : ByteArray, a7 = a6 ++ s /\ R (.string a7) a5))
theorem impl_Pad_ret {s : ByteArray} {n : Int} (h : impl_Pad s n w R) : Ret P 187 [.string s, .int .i64 n] w R := Ret.of_fsem Tryz.func187 rfl (Eq.mp (show _ = fsem P Tryz.f187 (fun k => []) _ R w from by kernel_rfl) h)
def impl_natText (a0 : Option Addr) (a1 a2 : Nat) (w : World) (R : Value -> World -> Prop) : Prop :=
 ((decide ((((a1 : Nat) : Int) : Int) = 0)) = true ->
 R (.string (S [48])) w) /\
 ((decide ((((a1 : Nat) : Int) : Int) = 0)) = false ->
 ∃ a3 : Int, a3 = IntKind.wrap .i64 (((a1 : Nat) : Int) - 1) /\ (0 <= (a3 : Int) /\ (a3 : Int) < (a1 : Nat)) /\ ptrS a0 fun ad => ∃ a4, Loads P 3 (ad.add (a3.toNat * 1)) (.int .i64 a4) w /\ Calls P 131 ⟨[.int .i64 a4]⟩ w fun e wv =>
 ∃ a5, e = .returned (.string a5) /\
 ∃ a6 : Int, a6 = IntKind.wrap .i64 (((a1 : Nat) : Int) - 2) /\ ∃ (a7 : ByteArray -> Int -> World -> Prop) (mu : ByteArray -> Int -> World -> Nat), a7 a5 a6 wv /\
 ∀ (a8 : Fr) (a9 : World) (text : ByteArray) (i : Int), a7 text i a9 ->
 ((decide ((0 : Int) <= i)) = true ->
 (0 <= (i : Int) /\ (i : Int) < (a1 : Nat)) /\ ptrS a0 fun aa => ∃ ab, Loads P 3 (aa.add (i.toNat * 1)) (.int .i64 ab) a9 /\ Calls P 131 ⟨[.int .i64 ab]⟩ a9 fun ac ae =>
 ∃ af, ac = .returned (.string af) /\
 Calls P 187 ⟨[.string af, .int .i64 9]⟩ ae fun ag ah =>
 ∃ ai, ag = .returned (.string ai) /\
 text.size + ai.size <= 9223372036854775807 /\ ∃ aj : ByteArray, aj = text ++ ai /\ ∃ ak : Int, ak = IntKind.wrap .i64 (i - 1) /\ a7 aj ak ah /\ mu aj ak ah < mu text i a9) /\
 ((decide ((0 : Int) <= i)) = false ->
 R (.string text) a9))
theorem impl_natText_ret {a : Option Addr} {a0 a1 : Nat} (h : impl_natText a a0 a1 w R) : Ret P 188 [.slice a a0 a1] w R := Ret.of_fsem Tryz.func188 rfl (Eq.mp (show _ = fsem P Tryz.f188 (fun k => cond (Nat.beq k 6) [(3, .one .str), (4, .one (.int .i64))] ([])) _ R w from by kernel_rfl) h)
def impl_DecAt_j0 (scale : Int) (r a0 : Nat) (W : World) (R : Value -> World -> Prop) : Prop :=
 ∃ a1, Loads P 3 ((⟨r, 0, none⟩ : Addr).add 2) (.int .i64 a1) W /\ ((decide ((a1 : Int) <= scale)) = true ->
 Calls P 123 ⟨[.int .i64 scale]⟩ W.drew fun a2 a3 =>
 ∃ (a4 : Value), a2 = .returned a4 /\
 Ext W.drew a3 /\ ∃ a5 a6 a7 a8 a9, (∀ wv_5, Ext W.drew wv_5 -> Loads P 36 ⟨r, 0, none⟩ (.agg #[.bool a5, .slice a6 a7 a8, .int .i64 a9]) wv_5) /\ CallW P a4 [.agg #[.bool a5, .slice a6 a7 a8, .int .i64 a9]] a3 fun aa ab =>
 ∃ ac ae af ag, aa = .returned (.agg #[.bool ac, .slice ae af ag]) /\
 Calls P 186 ⟨[.agg #[.bool ac, .slice ae af ag], .int .i64 scale]⟩ ab fun ah ai =>
 ∃ aj ak al am an ao, ah = .returned (.tuple #[.agg #[.bool aj, .slice ak al am, .int .i64 an], .bool ao]) /\
 ∃ wv_8, Stores P 36 ⟨a0, 0, none⟩ (.agg #[.bool aj, .slice ak al am, .int .i64 an]) ai wv_8 /\
 ∃ r0_1 ap aq ar r2_1, Loads P 36 ⟨a0, 0, none⟩ (.agg #[.bool r0_1, .slice ap aq ar, .int .i64 r2_1]) wv_8 /\ R (.tuple #[.agg #[.bool r0_1, .slice ap aq ar, .int .i64 r2_1], .bool ao]) wv_8) /\
 ((decide ((a1 : Int) <= scale)) = false ->
 ∃ au av aw, (∀ wv_9, Ext W.drew wv_9 -> Loads P 29 (((⟨r, 0, none⟩ : Addr).add 0).add 1) (.slice au av aw) wv_9) /\ ∃ ax, (∀ wv_10, Ext W.drew wv_10 -> Loads P 3 ((⟨r, 0, none⟩ : Addr).add 2) (.int .i64 ax) wv_10) /\ ∃ ay : Int, ay = IntKind.wrap .i64 (ax - scale) /\ Calls P 113 ⟨[.int .i64 ay]⟩ W.drew fun az b0 =>
 ∃ b1 b2 b3, az = .returned (.slice b1 b2 b3) /\
 Ext W.drew b0 /\ Calls P 180 ⟨[.slice au av aw, .slice b1 b2 b3]⟩ b0 fun b4 b5 =>
 ∃ b6 b7 b8 b9 ba bb, b4 = .returned (.tuple #[.slice b6 b7 b8, .slice b9 ba bb]) /\
 ((decide ((0 : Int) < ((ba : Nat) : Int))) = true ->
 ∃ wv_13, Stores P 36 ⟨a0, 0, none⟩ (.agg #[.bool false, .slice none 0 0, .int .i64 0]) b5 wv_13 /\
 ∃ r0_2 bc bd be r2_2, Loads P 36 ⟨a0, 0, none⟩ (.agg #[.bool r0_2, .slice bc bd be, .int .i64 r2_2]) wv_13 /\ R (.tuple #[.agg #[.bool r0_2, .slice bc bd be, .int .i64 r2_2], .bool false]) wv_13) /\
 ((decide ((0 : Int) < ((ba : Nat) : Int))) = false ->
 ∃ bf, Loads P 4 (((⟨r, 0, none⟩ : Addr).add 0).add 0) (.bool bf) b5 /\ Calls P 170 ⟨[.bool bf, .slice b6 b7 b8]⟩ b5 fun bg bh =>
 ∃ bi bj bk bl, bg = .returned (.agg #[.bool bi, .slice bj bk bl]) /\
 Calls P 186 ⟨[.agg #[.bool bi, .slice bj bk bl], .int .i64 scale]⟩ bh fun bm bn =>
 ∃ bo bp bq br bs bt, bm = .returned (.tuple #[.agg #[.bool bo, .slice bp bq br, .int .i64 bs], .bool bt]) /\
 ∃ wv_16, Stores P 36 ⟨a0, 0, none⟩ (.agg #[.bool bo, .slice bp bq br, .int .i64 bs]) bn wv_16 /\
 ∃ r0_3 bu bv bw r2_3, Loads P 36 ⟨a0, 0, none⟩ (.agg #[.bool r0_3, .slice bu bv bw, .int .i64 r2_3]) wv_16 /\ R (.tuple #[.agg #[.bool r0_3, .slice bu bv bw, .int .i64 r2_3], .bool bt]) wv_16))
def impl_DecAt (d0 : Bool) (a0 : Option Addr) (a1 a2 : Nat) (d2 scale : Int) (w : World) (R : Value -> World -> Prop) : Prop :=
 ∀ r wv, New w (.cells ⟨[.bool d0, .slice a0 a1 a2, .int .i64 d2]⟩ 36 (0, 0)) r wv ->
 ∀ a3 a4, New wv (.cells ⟨[.bool false, .slice none 0 0, .int .i64 0]⟩ 36 (0, 0)) a3 a4 ->
 ∃ a5 a6 a7 a8 a9, Loads P 36 ⟨r, 0, none⟩ (.agg #[.bool a5, .slice a6 a7 a8, .int .i64 a9]) a4 /\ Calls P 112 ⟨[.agg #[.bool a5, .slice a6 a7 a8, .int .i64 a9]]⟩ a4 fun e aa =>
 ∃ t9, e = .returned (.bool t9) /\
 ((!t9) = true ->
 (true = true ->
 ∃ wv_3, Stores P 36 ⟨a3, 0, none⟩ (.agg #[.bool false, .slice none 0 0, .int .i64 0]) aa wv_3 /\
 ∃ r0 ab ac ae r2, Loads P 36 ⟨a3, 0, none⟩ (.agg #[.bool r0, .slice ab ac ae, .int .i64 r2]) wv_3 /\ R (.tuple #[.agg #[.bool r0, .slice ab ac ae, .int .i64 r2], .bool false]) wv_3) /\
 (true = false ->
 impl_DecAt_j0 scale r a3 aa R)) /\
 ((!t9) = false ->
 Calls P 182 ⟨[.int .i64 scale]⟩ aa fun af ag =>
 ∃ ah, af = .returned (.bool ah) /\
 ((!ah) = true ->
 ∃ wv_18, Stores P 36 ⟨a3, 0, none⟩ (.agg #[.bool false, .slice none 0 0, .int .i64 0]) ag wv_18 /\
 ∃ r0_4 ai aj ak r2_4, Loads P 36 ⟨a3, 0, none⟩ (.agg #[.bool r0_4, .slice ai aj ak, .int .i64 r2_4]) wv_18 /\ R (.tuple #[.agg #[.bool r0_4, .slice ai aj ak, .int .i64 r2_4], .bool false]) wv_18) /\
 ((!ah) = false ->
 impl_DecAt_j0 scale r a3 ag R))
theorem impl_DecAt_ret {d0 : Bool} {a : Option Addr} {a0 a1 : Nat} {d2 a2 : Int} (h : impl_DecAt d0 a a0 a1 d2 a2 w R) : Ret P 189 [.agg #[.bool d0, .slice a a0 a1, .int .i64 d2], .int .i64 a2] w R := Ret.of_fsem Tryz.func189 rfl (Eq.mp (show _ = fsem P Tryz.f189 (fun k => []) _ R w from by kernel_rfl) h)
def spec_IntOk (x0 : Bool) (a0 : Option Addr) (a1 a2 : Nat) (w : World) (R : Value -> World -> Prop) : Prop :=
 ∀ r wv, New w (.cells ⟨[.bool x0, .slice a0 a1 a2]⟩ 31 (0, 0)) r wv ->
 ∃ a3 a4 a5, Loads P 29 ((⟨r, 0, none⟩ : Addr).add 1) (.slice a3 a4 a5) wv /\ Calls P 191 ⟨[.slice a3 a4 a5]⟩ wv fun e a6 =>
 ∃ t5, e = .returned (.bool t5) /\
 (t5 = true ->
 ∃ t8, Loads P 4 ((⟨r, 0, none⟩ : Addr).add 0) (.bool t8) a6 /\ ((!t8) = true ->
 R (.bool true) a6) /\
 ((!t8) = false ->
 ∃ a7 a8 a9, Loads P 29 ((⟨r, 0, none⟩ : Addr).add 1) (.slice a7 a8 a9) a6 /\ R (.bool (decide ((0 : Int) < ((a8 : Nat) : Int)))) a6)) /\
 (t5 = false ->
 R (.bool false) a6)
theorem spec_IntOk_ret {x0 : Bool} {a : Option Addr} {a0 a1 : Nat} (h : spec_IntOk x0 a a0 a1 w R) : Ret P 190 [.agg #[.bool x0, .slice a a0 a1]] w R := Ret.of_fsem Tryz.func190 rfl (Eq.mp (show _ = fsem P Tryz.f190 (fun k => []) _ R w from by kernel_rfl) h)
def spec_NatOk (a0 : Option Addr) (a1 a2 : Nat) (w : World) (R : Value -> World -> Prop) : Prop :=
 ∃ (a3 : Int -> World -> Prop) (mu : Int -> World -> Nat), a3 0 w /\
 ∀ (a4 : Fr) (wv : World) (t7 : Int), a3 t7 wv ->
 ((decide ((t7 : Int) < ((a1 : Nat) : Int))) = true ->
 (0 <= (t7 : Int) /\ (t7 : Int) < (a1 : Nat)) /\ ptrS a0 fun ad => ∃ a5, Loads P 3 (ad.add (t7.toNat * 1)) (.int .i64 a5) wv /\ Calls P 157 ⟨[.int .i64 a5, .int .i64 0, .int .i64 999999999]⟩ wv fun e a6 =>
 ∃ a7, e = .returned (.bool a7) /\
 ((!a7) = true ->
 R (.bool false) a6) /\
 ((!a7) = false ->
 ∃ a8 : Int, a8 = IntKind.wrap .i64 (t7 + 1) /\ a3 a8 a6 /\ mu a8 a6 < mu t7 wv)) /\
 ((decide ((t7 : Int) < ((a1 : Nat) : Int))) = false ->
 ((decide ((((a1 : Nat) : Int) : Int) <= 50)) = true ->
 ((decide ((((a1 : Nat) : Int) : Int) = 0)) = true ->
 R (.bool true) wv) /\
 ((decide ((((a1 : Nat) : Int) : Int) = 0)) = false ->
 ∃ a9 : Int, a9 = IntKind.wrap .i64 (((a1 : Nat) : Int) - 1) /\ (0 <= (a9 : Int) /\ (a9 : Int) < (a1 : Nat)) /\ ptrS a0 fun aa => ∃ ab, Loads P 3 (aa.add (a9.toNat * 1)) (.int .i64 ab) wv /\ R (.bool (decide ((ab : Int) ≠ 0))) wv)) /\
 ((decide ((((a1 : Nat) : Int) : Int) <= 50)) = false ->
 R (.bool false) wv))
theorem spec_NatOk_ret {a : Option Addr} {a0 a1 : Nat} (h : spec_NatOk a a0 a1 w R) : Ret P 191 [.slice a a0 a1] w R := Ret.of_fsem Tryz.func191 rfl (Eq.mp (show _ = fsem P Tryz.f191 (fun k => cond (Nat.beq k 3) [(7, .one (.int .i64))] ([])) _ R w from by kernel_rfl) h)
def spec_l02Cmp (a0 : Option Addr) (a1 a2 : Nat) (a3 : Option Addr) (a4 a5 : Nat) (w : World) (R : Value -> World -> Prop) : Prop :=
 ((decide ((((a1 : Nat) : Int) : Int) ≠ ((a4 : Nat) : Int))) = true ->
 ((decide ((((a1 : Nat) : Int) : Int) < ((a4 : Nat) : Int))) = true ->
 R (.int .i64 (-1)) w) /\
 ((decide ((((a1 : Nat) : Int) : Int) < ((a4 : Nat) : Int))) = false ->
 R (.int .i64 1) w)) /\
 ((decide ((((a1 : Nat) : Int) : Int) ≠ ((a4 : Nat) : Int))) = false ->
 ∃ a6 : Int, a6 = IntKind.wrap .i64 (((a1 : Nat) : Int) - 1) /\ ∃ (a7 : Int -> World -> Prop) (mu : Int -> World -> Nat), a7 a6 w /\
 ∀ (a8 : Fr) (wv : World) (i : Int), a7 i wv ->
 ((decide ((0 : Int) <= i)) = true ->
 (0 <= (i : Int) /\ (i : Int) < (a1 : Nat)) /\ ptrS a0 fun ad => ∃ a9, (∀ wv_1, Ext wv.drew wv_1 -> Loads P 3 (ad.add (i.toNat * 1)) (.int .i64 a9) wv_1) /\ (0 <= (i : Int) /\ (i : Int) < (a4 : Nat)) /\ ptrS a3 fun aa => ∃ ab, (∀ wv_2, Ext wv.drew wv_2 -> Loads P 3 (aa.add (i.toNat * 1)) (.int .i64 ab) wv_2) /\ ((decide ((a9 : Int) < ab)) = true ->
 R (.int .i64 (-1)) wv.drew) /\
 ((decide ((a9 : Int) < ab)) = false ->
 (0 <= (i : Int) /\ (i : Int) < (a1 : Nat)) /\ ptrS a0 fun ac => ∃ ae, (∀ wv_3, Ext wv.drew.drew wv_3 -> Loads P 3 (ac.add (i.toNat * 1)) (.int .i64 ae) wv_3) /\ (0 <= (i : Int) /\ (i : Int) < (a4 : Nat)) /\ ptrS a3 fun af => ∃ ag, (∀ wv_4, Ext wv.drew.drew wv_4 -> Loads P 3 (af.add (i.toNat * 1)) (.int .i64 ag) wv_4) /\ ((decide ((ag : Int) < ae)) = true ->
 R (.int .i64 1) wv.drew.drew) /\
 ((decide ((ag : Int) < ae)) = false ->
 ∃ ah : Int, ah = IntKind.wrap .i64 (i - 1) /\ a7 ah wv.drew.drew /\ mu ah wv.drew.drew < mu i wv))) /\
 ((decide ((0 : Int) <= i)) = false ->
 R (.int .i64 0) wv))
theorem spec_l02Cmp_ret {a : Option Addr} {a0 a1 : Nat} {a2 : Option Addr} {a3 a4 : Nat} (h : spec_l02Cmp a a0 a1 a2 a3 a4 w R) : Ret P 192 [.slice a a0 a1, .slice a2 a3 a4] w R := Ret.of_fsem Tryz.func192 rfl (Eq.mp (show _ = fsem P Tryz.f192 (fun k => cond (Nat.beq k 7) [(5, .one (.int .i64))] ([])) _ R w from by kernel_rfl) h)
def spec_NatGcd_j0 (a0 : Option Addr) (a1 a2 : Nat) (a3 : Option Addr) (a4 a5 : Nat) (W : World) (R : Value -> World -> Prop) : Prop :=
 ∀ r a6, New W (.cells ⟨[]⟩ 3 (0, 0)) r a6 ->
 ∃ a7 a8 a9 aa, Appends P [29, 29] [(.slice (some ⟨r, 0, none⟩) 0 0), .slice a0 a1 a2] (.slice a7 a8 a9) a6 aa /\
 ∀ ab ac, New aa (.cells ⟨[]⟩ 3 (0, 0)) ab ac ->
 ∃ ae af ag ah, Appends P [29, 29] [(.slice (some ⟨ab, 0, none⟩) 0 0), .slice a3 a4 a5] (.slice ae af ag) ac ah /\
 ∃ (ai : Option Addr -> Nat -> Nat -> Option Addr -> Nat -> Nat -> World -> Prop) (mu : Option Addr -> Nat -> Nat -> Option Addr -> Nat -> Nat -> World -> Nat), ai a7 a8 a9 ae af ag ah /\
 ∀ (aj : Fr) (ak : World) (al : Option Addr) (am an : Nat) (ao : Option Addr) (ap aq : Nat), ai al am an ao ap aq ak ->
 ((decide ((0 : Int) < ((ap : Nat) : Int))) = true ->
 Calls P 235 ⟨[.slice al am an, .slice ao ap aq]⟩ ak fun ar au =>
 ∃ av aw ax ay az b0, ar = .returned (.tuple #[.slice av aw ax, .slice ay az b0]) /\
 ai ao ap aq ay az b0 au /\ mu ao ap aq ay az b0 au < mu al am an ao ap aq ak) /\
 ((decide ((0 : Int) < ((ap : Nat) : Int))) = false ->
 R (.slice al am an) ak)
def spec_NatGcd (a0 : Option Addr) (a1 a2 : Nat) (a3 : Option Addr) (a4 a5 : Nat) (w : World) (R : Value -> World -> Prop) : Prop :=
 Calls P 191 ⟨[.slice a0 a1 a2]⟩ w fun e wv =>
 ∃ a6, e = .returned (.bool a6) /\
 ((!a6) = true ->
 (true = true ->
 R (.slice none 0 0) wv) /\
 (true = false ->
 spec_NatGcd_j0 a0 a1 a2 a3 a4 a5 wv R)) /\
 ((!a6) = false ->
 Calls P 191 ⟨[.slice a3 a4 a5]⟩ wv fun a7 a8 =>
 ∃ a9, a7 = .returned (.bool a9) /\
 ((!a9) = true ->
 R (.slice none 0 0) a8) /\
 ((!a9) = false ->
 spec_NatGcd_j0 a0 a1 a2 a3 a4 a5 a8 R))
theorem spec_NatGcd_ret {a : Option Addr} {a0 a1 : Nat} {a2 : Option Addr} {a3 a4 : Nat} (h : spec_NatGcd a a0 a1 a2 a3 a4 w R) : Ret P 193 [.slice a a0 a1, .slice a2 a3 a4] w R := Ret.of_fsem Tryz.func193 rfl (Eq.mp (show _ = fsem P Tryz.f193 (fun k => cond (Nat.beq k 6) [(5, .one .slice), (6, .one .slice)] ([])) _ R w from by kernel_rfl) h)
def impl_RatNeg (r0 : Bool) (a0 : Option Addr) (a1 a2 : Nat) (a3 : Option Addr) (a4 a5 : Nat) (w : World) (R : Value -> World -> Prop) : Prop :=
 ∀ r wv, New w (.cells ⟨[.bool r0, .slice a0 a1 a2, .slice a3 a4 a5]⟩ 60 (0, 0)) r wv ->
 ∀ a6 a7, New wv (.cells ⟨[.bool false, .slice none 0 0, .slice none 0 0]⟩ 60 (0, 0)) a6 a7 ->
 ∃ a8 a9 aa ab ac ae af, Loads P 60 ⟨r, 0, none⟩ (.agg #[.bool a8, .slice a9 aa ab, .slice ac ae af]) a7 /\ Calls P 132 ⟨[.agg #[.bool a8, .slice a9 aa ab, .slice ac ae af]]⟩ a7 fun e ag =>
 ∃ t5, e = .returned (.bool t5) /\
 ((!t5) = true ->
 ∃ wv_3, Stores P 60 ⟨a6, 0, none⟩ (.agg #[.bool false, .slice none 0 0, .slice none 0 0]) ag wv_3 /\
 ∃ r0_1 ah ai aj ak al am, Loads P 60 ⟨a6, 0, none⟩ (.agg #[.bool r0_1, .slice ah ai aj, .slice ak al am]) wv_3 /\ R (.tuple #[.agg #[.bool r0_1, .slice ah ai aj, .slice ak al am], .bool false]) wv_3) /\
 ((!t5) = false ->
 ∃ an ao ap aq ar au av, Loads P 60 ⟨r, 0, none⟩ (.agg #[.bool an, .slice ao ap aq, .slice ar au av]) ag /\ Calls P 130 ⟨[.agg #[.bool an, .slice ao ap aq, .slice ar au av]]⟩ ag fun aw ax =>
 ∃ ay az b0 b1 b2 b3 b4, aw = .returned (.agg #[.bool ay, .slice az b0 b1, .slice b2 b3 b4]) /\
 ∃ wv_5, Stores P 60 ⟨a6, 0, none⟩ (.agg #[.bool ay, .slice az b0 b1, .slice b2 b3 b4]) ax wv_5 /\
 ∃ r0_2 b5 b6 b7 b8 b9 ba, Loads P 60 ⟨a6, 0, none⟩ (.agg #[.bool r0_2, .slice b5 b6 b7, .slice b8 b9 ba]) wv_5 /\ R (.tuple #[.agg #[.bool r0_2, .slice b5 b6 b7, .slice b8 b9 ba], .bool true]) wv_5)
theorem impl_RatNeg_ret {r0 : Bool} {a : Option Addr} {a0 a1 : Nat} {a2 : Option Addr} {a3 a4 : Nat} (h : impl_RatNeg r0 a a0 a1 a2 a3 a4 w R) : Ret P 194 [.agg #[.bool r0, .slice a a0 a1, .slice a2 a3 a4]] w R := Ret.of_fsem Tryz.func194 rfl (Eq.mp (show _ = fsem P Tryz.f194 (fun k => []) _ R w from by kernel_rfl) h)
def impl_scaled_1 (d0 : Bool) (a0 : Option Addr) (a1 a2 : Nat) (d2 : Int) (cap0 : Option Addr) (w : World) (R : Value -> World -> Prop) : Prop :=
 ∀ r wv, New w (.cells ⟨[.bool d0, .slice a0 a1 a2, .int .i64 d2]⟩ 36 (0, 0)) r wv ->
 ∀ a3 a4, New wv (.cells ⟨[.bool false, .slice none 0 0]⟩ 31 (0, 0)) a3 a4 ->
 ∃ t6, (∀ wv_2, Ext a4.drew wv_2 -> Loads P 4 (((⟨r, 0, none⟩ : Addr).add 0).add 0) (.bool t6) wv_2) /\ ∃ a5 a6 a7, (∀ wv_3, Ext a4.drew wv_3 -> Loads P 29 (((⟨r, 0, none⟩ : Addr).add 0).add 1) (.slice a5 a6 a7) wv_3) /\ ptrS cap0 fun ad => ∃ a8, (∀ wv_4, Ext a4.drew wv_4 -> Loads P 3 ad (.int .i64 a8) wv_4) /\ ∃ a9, (∀ wv_5, Ext a4.drew wv_5 -> Loads P 3 ((⟨r, 0, none⟩ : Addr).add 2) (.int .i64 a9) wv_5) /\ ∃ aa : Int, aa = IntKind.wrap .i64 (a8 - a9) /\ Calls P 113 ⟨[.int .i64 aa]⟩ a4.drew fun e ab =>
 ∃ ac ae af, e = .returned (.slice ac ae af) /\
 Ext a4.drew ab /\ Calls P 109 ⟨[.slice a5 a6 a7, .slice ac ae af]⟩ ab fun ag ah =>
 ∃ ai aj ak, ag = .returned (.slice ai aj ak) /\
 Ext ab ah /\ Calls P 170 ⟨[.bool t6, .slice ai aj ak]⟩ ah fun al am =>
 ∃ an ao ap aq, al = .returned (.agg #[.bool an, .slice ao ap aq]) /\
 ∃ wv_9, Stores P 31 ⟨a3, 0, none⟩ (.agg #[.bool an, .slice ao ap aq]) am wv_9 /\
 ∃ r0 ar au av, Loads P 31 ⟨a3, 0, none⟩ (.agg #[.bool r0, .slice ar au av]) wv_9 /\ R (.agg #[.bool r0, .slice ar au av]) wv_9
theorem impl_scaled_1_ret {d0 : Bool} {a : Option Addr} {a0 a1 : Nat} {d2 : Int} {a2 : Option Addr} (h : impl_scaled_1 d0 a a0 a1 d2 a2 w R) : Ret P 195 [.agg #[.bool d0, .slice a a0 a1, .int .i64 d2], .pointer a2] w R := Ret.of_fsem Tryz.func195 rfl (Eq.mp (show _ = fsem P Tryz.f195 (fun k => []) _ R w from by kernel_rfl) h)
end Go.Proofs.YtbgokfhcgcoipaaGreatDoor
namespace Go.Proofs.YtbgokfhcgcoipaaGreatDoor
variable {w : World} {R : Value -> World -> Prop}
open Go Go.Proofs.YtbgokfhcgcoipaaGreatDoor.Sx
set_option maxRecDepth 100000
def impl_isDigit (c : Int) (w : World) (R : Value -> World -> Prop) : Prop :=
 ((decide ((48 : Int) <= c)) = true ->
 R (.bool (decide ((c : Int) <= 57))) w) /\
 ((decide ((48 : Int) <= c)) = false ->
 R (.bool false) w)
theorem impl_isDigit_ret {c : Int} (h : impl_isDigit c w R) : Ret P 206 [.int .u8 c] w R := Ret.of_fsem Tryz.func206 rfl (Eq.mp (show _ = fsem P Tryz.f206 (fun k => []) _ R w from by kernel_rfl) h)
def spec_l02Cap (a0 : Option Addr) (a1 a2 : Nat) (w : World) (R : Value -> World -> Prop) : Prop :=
 Calls P 230 ⟨[.slice a0 a1 a2]⟩ w fun e wv =>
 ∃ a3 a4 a5, e = .returned (.slice a3 a4 a5) /\
 ((decide ((50 : Int) < ((a4 : Nat) : Int))) = true ->
 R (.slice none 0 0) wv) /\
 ((decide ((50 : Int) < ((a4 : Nat) : Int))) = false ->
 R (.slice a3 a4 a5) wv)
theorem spec_l02Cap_ret {a : Option Addr} {a0 a1 : Nat} (h : spec_l02Cap a a0 a1 w R) : Ret P 225 [.slice a a0 a1] w R := Ret.of_fsem Tryz.func225 rfl (Eq.mp (show _ = fsem P Tryz.f225 (fun k => []) _ R w from by kernel_rfl) h)
def impl_currencyOf (code : ByteArray) (w : World) (R : Value -> World -> Prop) : Prop :=
 ∀ r wv, New w (.cells ⟨[.string ByteArray.empty, .string ByteArray.empty, .int .i64 0, .int .i64 0]⟩ 252 (0, 0)) r wv ->
 ∃ (t6 : Value), Loads P 283 ⟨0, 0, none⟩ t6 wv /\ ∃ (a0 : Int -> World -> Prop) (mu : Int -> World -> Nat), a0 0 wv /\
 ∀ (a1 : Fr) (a2 : World) (t7 : Int), a0 t7 a2 ->
 ((decide ((t7 : Int) < 20)) = true ->
 indexS P 283 t6 (.int .i64 t7) fun (el : Value) => ∀ a3 a4, New a2 (.cells ⟨[.string ByteArray.empty, .string ByteArray.empty, .int .i64 0, .int .i64 0]⟩ 252 (0, 0)) a3 a4 ->
 ∃ wv_3, Stores P 252 ⟨a3, 0, none⟩ el a4 wv_3 /\
 ∃ a5, Loads P 9 ((⟨a3, 0, none⟩ : Addr).add 0) (.string a5) wv_3 /\ ((decide (a5 = code)) = true ->
 ∃ a6 a7 a8 a9, Loads P 252 ⟨a3, 0, none⟩ (.agg #[.string a6, .string a7, .int .i64 a8, .int .i64 a9]) wv_3 /\ ∃ wv_4, Stores P 252 ⟨r, 0, none⟩ (.agg #[.string a6, .string a7, .int .i64 a8, .int .i64 a9]) wv_3 wv_4 /\
 ∃ r0 r1 r2 r3, Loads P 252 ⟨r, 0, none⟩ (.agg #[.string r0, .string r1, .int .i64 r2, .int .i64 r3]) wv_4 /\ R (.tuple #[.agg #[.string r0, .string r1, .int .i64 r2, .int .i64 r3], .bool true]) wv_4) /\
 ((decide (a5 = code)) = false ->
 ∃ aa : Int, aa = IntKind.wrap .i64 (t7 + 1) /\ a0 aa wv_3 /\ mu aa wv_3 < mu t7 a2)) /\
 ((decide ((t7 : Int) < 20)) = false ->
 ∃ wv_5, Stores P 252 ⟨r, 0, none⟩ (.agg #[.string ByteArray.empty, .string ByteArray.empty, .int .i64 0, .int .i64 0]) a2 wv_5 /\
 ∃ r0_1 r1_1 r2_1 r3_1, Loads P 252 ⟨r, 0, none⟩ (.agg #[.string r0_1, .string r1_1, .int .i64 r2_1, .int .i64 r3_1]) wv_5 /\ R (.tuple #[.agg #[.string r0_1, .string r1_1, .int .i64 r2_1, .int .i64 r3_1], .bool false]) wv_5)
theorem impl_currencyOf_ret {a : ByteArray} (h : impl_currencyOf a w R) : Ret P 229 [.string a] w R := Ret.of_fsem Tryz.func229 rfl (Eq.mp (show _ = fsem P Tryz.f229 (fun k => cond (Nat.beq k 3) [(7, .one (.int .i64))] ([])) _ R w from by kernel_rfl) h)
def spec_l02Trim (a0 : Option Addr) (a1 a2 : Nat) (w : World) (R : Value -> World -> Prop) : Prop :=
 ∃ (a3 : Int -> World -> Prop) (mu : Int -> World -> Nat), a3 ((a1 : Nat) : Int) w /\
 ∀ (a4 : Fr) (wv : World) (n : Int), a3 n wv ->
 ((decide ((0 : Int) < n)) = true ->
 ∃ a5 : Int, a5 = IntKind.wrap .i64 (n - 1) /\ (0 <= (a5 : Int) /\ (a5 : Int) < (a1 : Nat)) /\ ptrS a0 fun ad => ∃ a6, Loads P 3 (ad.add (a5.toNat * 1)) (.int .i64 a6) wv /\ ((decide ((a6 : Int) = 0)) = true ->
 ∃ a7 : Int, a7 = IntKind.wrap .i64 (n - 1) /\ a3 a7 wv /\ mu a7 wv < mu n wv) /\
 ((decide ((a6 : Int) = 0)) = false ->
 (0 <= (n : Int) /\ (n : Int) <= (a2 : Nat)) /\ R (.slice (sub a0 0 a2 1) (n.toNat - 0) (a2 - 0)) wv)) /\
 ((decide ((0 : Int) < n)) = false ->
 (false = true ->
 ∃ a8 : Int, a8 = IntKind.wrap .i64 (n - 1) /\ a3 a8 wv /\ mu a8 wv < mu n wv) /\
 (false = false ->
 (0 <= (n : Int) /\ (n : Int) <= (a2 : Nat)) /\ R (.slice (sub a0 0 a2 1) (n.toNat - 0) (a2 - 0)) wv))
theorem spec_l02Trim_ret {a : Option Addr} {a0 a1 : Nat} (h : spec_l02Trim a a0 a1 w R) : Ret P 230 [.slice a a0 a1] w R := Ret.of_fsem Tryz.func230 rfl (Eq.mp (show _ = fsem P Tryz.f230 (fun k => cond (Nat.beq k 3) [(3, .one (.int .i64))] ([])) _ R w from by kernel_rfl) h)
def impl_RatRound (r0 : Bool) (a0 : Option Addr) (a1 a2 : Nat) (a3 : Option Addr) (a4 a5 : Nat) (m : Int) (w : World) (R : Value -> World -> Prop) : Prop :=
 ∀ r wv, New w (.cells ⟨[.bool r0, .slice a0 a1 a2, .slice a3 a4 a5]⟩ 60 (0, 0)) r wv ->
 ∀ a6 a7, New wv (.cells ⟨[.bool false, .slice none 0 0]⟩ 31 (0, 0)) a6 a7 ->
 ∃ a8 a9 aa ab ac ae af, Loads P 60 ⟨r, 0, none⟩ (.agg #[.bool a8, .slice a9 aa ab, .slice ac ae af]) a7 /\ Calls P 132 ⟨[.agg #[.bool a8, .slice a9 aa ab, .slice ac ae af]]⟩ a7 fun e ag =>
 ∃ t7, e = .returned (.bool t7) /\
 ((!t7) = true ->
 (true = true ->
 ∃ wv_3, Stores P 31 ⟨a6, 0, none⟩ (.agg #[.bool false, .slice none 0 0]) ag wv_3 /\
 ∃ r0_1 ah ai aj, Loads P 31 ⟨a6, 0, none⟩ (.agg #[.bool r0_1, .slice ah ai aj]) wv_3 /\ R (.tuple #[.agg #[.bool r0_1, .slice ah ai aj], .bool false]) wv_3) /\
 (true = false ->
 ∃ ak al am an, Loads P 31 ((⟨r, 0, none⟩ : Addr).add 0) (.agg #[.bool ak, .slice al am an]) ag /\ ∃ ao ap aq, Loads P 29 ((⟨r, 0, none⟩ : Addr).add 2) (.slice ao ap aq) ag /\ Calls P 280 ⟨[.agg #[.bool ak, .slice al am an], .slice ao ap aq, .int .i64 m]⟩ ag fun ar au =>
 ∃ av aw ax ay, ar = .returned (.agg #[.bool av, .slice aw ax ay]) /\
 ∃ wv_5, Stores P 31 ⟨a6, 0, none⟩ (.agg #[.bool av, .slice aw ax ay]) au wv_5 /\
 ∃ r0_2 az b0 b1, Loads P 31 ⟨a6, 0, none⟩ (.agg #[.bool r0_2, .slice az b0 b1]) wv_5 /\ R (.tuple #[.agg #[.bool r0_2, .slice az b0 b1], .bool true]) wv_5)) /\
 ((!t7) = false ->
 Calls P 279 ⟨[.int .i64 m]⟩ ag fun b2 b3 =>
 ∃ b4, b2 = .returned (.bool b4) /\
 ((!b4) = true ->
 ∃ wv_7, Stores P 31 ⟨a6, 0, none⟩ (.agg #[.bool false, .slice none 0 0]) b3 wv_7 /\
 ∃ r0_3 b5 b6 b7, Loads P 31 ⟨a6, 0, none⟩ (.agg #[.bool r0_3, .slice b5 b6 b7]) wv_7 /\ R (.tuple #[.agg #[.bool r0_3, .slice b5 b6 b7], .bool false]) wv_7) /\
 ((!b4) = false ->
 ∃ b8 b9 ba bb, Loads P 31 ((⟨r, 0, none⟩ : Addr).add 0) (.agg #[.bool b8, .slice b9 ba bb]) b3 /\ ∃ bc bd be, Loads P 29 ((⟨r, 0, none⟩ : Addr).add 2) (.slice bc bd be) b3 /\ Calls P 280 ⟨[.agg #[.bool b8, .slice b9 ba bb], .slice bc bd be, .int .i64 m]⟩ b3 fun bf bg =>
 ∃ bh bi bj bk, bf = .returned (.agg #[.bool bh, .slice bi bj bk]) /\
 ∃ wv_9, Stores P 31 ⟨a6, 0, none⟩ (.agg #[.bool bh, .slice bi bj bk]) bg wv_9 /\
 ∃ r0_4 bl bm bn, Loads P 31 ⟨a6, 0, none⟩ (.agg #[.bool r0_4, .slice bl bm bn]) wv_9 /\ R (.tuple #[.agg #[.bool r0_4, .slice bl bm bn], .bool true]) wv_9))
theorem impl_RatRound_ret {r0 : Bool} {a : Option Addr} {a0 a1 : Nat} {a2 : Option Addr} {a3 a4 : Nat} {m : Int} (h : impl_RatRound r0 a a0 a1 a2 a3 a4 m w R) : Ret P 231 [.agg #[.bool r0, .slice a a0 a1, .slice a2 a3 a4], .int .i64 m] w R := Ret.of_fsem Tryz.func231 rfl (Eq.mp (show _ = fsem P Tryz.f231 (fun k => []) _ R w from by kernel_rfl) h)
def impl_divStep_j0 (q_1 : Int) (W : World) (R : Value -> World -> Prop) : Prop :=
 R (.int .i64 q_1) W
def impl_divStep_j1 (q_2 : Int) (a0 : World) (R : Value -> World -> Prop) : Prop :=
 R (.int .i64 q_2) a0
def impl_divStep_j2 (q_3 : Int) (a0 : World) (R : Value -> World -> Prop) : Prop :=
 R (.int .i64 q_3) a0
def impl_divStep_j3 (q_4 : Int) (a0 : World) (R : Value -> World -> Prop) : Prop :=
 R (.int .i64 q_4) a0
def impl_divStep (a0 : Option Addr) (a1 a2 : Nat) (a3 : Option Addr) (a4 a5 : Nat) (w : World) (R : Value -> World -> Prop) : Prop :=
 (0 <= (((a4 : Nat) : Int) : Int) /\ (((a4 : Nat) : Int) : Int) < (a1 : Nat)) /\ ptrS a0 fun ad => ∃ a6, (∀ wv, Ext w.drew wv -> Loads P 3 (ad.add (a4 * 1)) (.int .i64 a6) wv) /\ ∃ a7 : Int, a7 = IntKind.wrap .i64 (a6 * 1000000000) /\ ∃ a8 : Int, a8 = IntKind.wrap .i64 (((a4 : Nat) : Int) - 1) /\ (0 <= (a8 : Int) /\ (a8 : Int) < (a1 : Nat)) /\ ptrS a0 fun a9 => ∃ aa, (∀ wv_1, Ext w.drew wv_1 -> Loads P 3 (a9.add (a8.toNat * 1)) (.int .i64 aa) wv_1) /\ ∃ ab : Int, ab = IntKind.wrap .i64 (a7 + aa) /\ ∃ ac : Int, ac = IntKind.wrap .i64 (((a4 : Nat) : Int) - 1) /\ (0 <= (ac : Int) /\ (ac : Int) < (a4 : Nat)) /\ ptrS a3 fun ae => ∃ af, Loads P 3 (ae.add (ac.toNat * 1)) (.int .i64 af) w.drew /\ (af : Int) ≠ 0 /\ ∃ ag : Int, ag = IntKind.wrap .i64 (Int.tdiv ab af) /\ ∃ ah : Int, ah = (if 999999999 < ag then 999999999 else ag) /\ ∃ (ai : Int -> World -> Prop) (mu : Int -> World -> Nat), ai ah w.drew /\
 ∀ (aj : Fr) (ak : World) (q : Int), ai q ak ->
 ((decide ((0 : Int) < q)) = true ->
 ∃ al : Int, al = IntKind.wrap .i64 (((a4 : Nat) : Int) - 1) /\ (0 <= (al : Int) /\ (al : Int) < (a4 : Nat)) /\ ptrS a3 fun am => ∃ an, (∀ wv_3, Ext ak.drew wv_3 -> Loads P 3 (am.add (al.toNat * 1)) (.int .i64 an) wv_3) /\ ∃ ao : Int, ao = IntKind.wrap .i64 (q * an) /\ ∃ ap : Int, ap = IntKind.wrap .i64 (ab - ao) /\ ((decide ((ap : Int) < 1000000000)) = true ->
 ∃ aq : Int, aq = IntKind.wrap .i64 (((a4 : Nat) : Int) - 2) /\ (0 <= (aq : Int) /\ (aq : Int) < (a4 : Nat)) /\ ptrS a3 fun ar => ∃ au, (∀ wv_4, Ext ak.drew wv_4 -> Loads P 3 (ar.add (aq.toNat * 1)) (.int .i64 au) wv_4) /\ ∃ av : Int, av = IntKind.wrap .i64 (q * au) /\ ∃ aw : Int, aw = IntKind.wrap .i64 (((a4 : Nat) : Int) - 1) /\ (0 <= (aw : Int) /\ (aw : Int) < (a4 : Nat)) /\ ptrS a3 fun ax => ∃ ay, (∀ wv_5, Ext ak.drew wv_5 -> Loads P 3 (ax.add (aw.toNat * 1)) (.int .i64 ay) wv_5) /\ ∃ az : Int, az = IntKind.wrap .i64 (q * ay) /\ ∃ b0 : Int, b0 = IntKind.wrap .i64 (ab - az) /\ ∃ b1 : Int, b1 = IntKind.wrap .i64 (b0 * 1000000000) /\ ∃ b2 : Int, b2 = IntKind.wrap .i64 (((a4 : Nat) : Int) - 2) /\ (0 <= (b2 : Int) /\ (b2 : Int) < (a1 : Nat)) /\ ptrS a0 fun b3 => ∃ b4, (∀ wv_6, Ext ak.drew wv_6 -> Loads P 3 (b3.add (b2.toNat * 1)) (.int .i64 b4) wv_6) /\ ∃ b5 : Int, b5 = IntKind.wrap .i64 (b1 + b4) /\ ((decide ((b5 : Int) < av)) = true ->
 ∃ b6 : Int, b6 = IntKind.wrap .i64 (q - 1) /\ ai b6 ak.drew /\ mu b6 ak.drew < mu q ak) /\
 ((decide ((b5 : Int) < av)) = false ->
 Calls P 281 ⟨[.slice a0 a1 a2, .slice a3 a4 a5, .int .i64 q]⟩ ak.drew fun e b7 =>
 ∃ b8, e = .returned (.bool b8) /\
 (b8 = true ->
 ∃ b9 : Int, b9 = IntKind.wrap .i64 (q - 1) /\ Calls P 282 ⟨[.slice a0 a1 a2, .slice a3 a4 a5]⟩ b7 fun ba bb =>
 ba = .returned (.tuple #[]) /\
 impl_divStep_j0 b9 bb R) /\
 (b8 = false ->
 impl_divStep_j0 q b7 R))) /\
 ((decide ((ap : Int) < 1000000000)) = false ->
 (false = true ->
 ∃ bc : Int, bc = IntKind.wrap .i64 (q - 1) /\ ai bc ak.drew /\ mu bc ak.drew < mu q ak) /\
 (false = false ->
 Calls P 281 ⟨[.slice a0 a1 a2, .slice a3 a4 a5, .int .i64 q]⟩ ak.drew fun bd be =>
 ∃ bf, bd = .returned (.bool bf) /\
 (bf = true ->
 ∃ bg : Int, bg = IntKind.wrap .i64 (q - 1) /\ Calls P 282 ⟨[.slice a0 a1 a2, .slice a3 a4 a5]⟩ be fun bh bi =>
 bh = .returned (.tuple #[]) /\
 impl_divStep_j1 bg bi R) /\
 (bf = false ->
 impl_divStep_j1 q be R)))) /\
 ((decide ((0 : Int) < q)) = false ->
 (false = true ->
 ∃ bj : Int, bj = IntKind.wrap .i64 (((a4 : Nat) : Int) - 2) /\ (0 <= (bj : Int) /\ (bj : Int) < (a4 : Nat)) /\ ptrS a3 fun bk => ∃ bl, (∀ wv_11, Ext ak.drew wv_11 -> Loads P 3 (bk.add (bj.toNat * 1)) (.int .i64 bl) wv_11) /\ ∃ bm : Int, bm = IntKind.wrap .i64 (q * bl) /\ ∃ bn : Int, bn = IntKind.wrap .i64 (((a4 : Nat) : Int) - 1) /\ (0 <= (bn : Int) /\ (bn : Int) < (a4 : Nat)) /\ ptrS a3 fun bo => ∃ bp, (∀ wv_12, Ext ak.drew wv_12 -> Loads P 3 (bo.add (bn.toNat * 1)) (.int .i64 bp) wv_12) /\ ∃ bq : Int, bq = IntKind.wrap .i64 (q * bp) /\ ∃ br : Int, br = IntKind.wrap .i64 (ab - bq) /\ ∃ bs : Int, bs = IntKind.wrap .i64 (br * 1000000000) /\ ∃ bt : Int, bt = IntKind.wrap .i64 (((a4 : Nat) : Int) - 2) /\ (0 <= (bt : Int) /\ (bt : Int) < (a1 : Nat)) /\ ptrS a0 fun bu => ∃ bv, (∀ wv_13, Ext ak.drew wv_13 -> Loads P 3 (bu.add (bt.toNat * 1)) (.int .i64 bv) wv_13) /\ ∃ bw : Int, bw = IntKind.wrap .i64 (bs + bv) /\ ((decide ((bw : Int) < bm)) = true ->
 ∃ bx : Int, bx = IntKind.wrap .i64 (q - 1) /\ ai bx ak.drew /\ mu bx ak.drew < mu q ak) /\
 ((decide ((bw : Int) < bm)) = false ->
 Calls P 281 ⟨[.slice a0 a1 a2, .slice a3 a4 a5, .int .i64 q]⟩ ak.drew fun bz c0 =>
 ∃ c1, bz = .returned (.bool c1) /\
 (c1 = true ->
 ∃ c2 : Int, c2 = IntKind.wrap .i64 (q - 1) /\ Calls P 282 ⟨[.slice a0 a1 a2, .slice a3 a4 a5]⟩ c0 fun c3 c4 =>
 c3 = .returned (.tuple #[]) /\
 impl_divStep_j2 c2 c4 R) /\
 (c1 = false ->
 impl_divStep_j2 q c0 R))) /\
 (false = false ->
 (false = true ->
 ∃ c5 : Int, c5 = IntKind.wrap .i64 (q - 1) /\ ai c5 ak.drew /\ mu c5 ak.drew < mu q ak) /\
 (false = false ->
 Calls P 281 ⟨[.slice a0 a1 a2, .slice a3 a4 a5, .int .i64 q]⟩ ak.drew fun c6 c7 =>
 ∃ c8, c6 = .returned (.bool c8) /\
 (c8 = true ->
 ∃ c9 : Int, c9 = IntKind.wrap .i64 (q - 1) /\ Calls P 282 ⟨[.slice a0 a1 a2, .slice a3 a4 a5]⟩ c7 fun ca cb =>
 ca = .returned (.tuple #[]) /\
 impl_divStep_j3 c9 cb R) /\
 (c8 = false ->
 impl_divStep_j3 q c7 R))))
theorem impl_divStep_ret {a : Option Addr} {a0 a1 : Nat} {a2 : Option Addr} {a3 a4 : Nat} (h : impl_divStep a a0 a1 a2 a3 a4 w R) : Ret P 232 [.slice a a0 a1, .slice a2 a3 a4] w R := Ret.of_fsem Tryz.func232 rfl (Eq.mp (show _ = fsem P Tryz.f232 (fun k => cond (Nat.beq k 5) [(7, .one (.int .i64))] ([])) _ R w from by kernel_rfl) h)
def impl_IsDigits (s : ByteArray) (w : World) (R : Value -> World -> Prop) : Prop :=
 ∃ (a0 : Int -> World -> Prop) (mu : Int -> World -> Nat), a0 0 w /\
 ∀ (a1 : Fr) (wv : World) (i : Int), a0 i wv ->
 ((decide ((i : Int) < ((s.size : Nat) : Int))) = true ->
 0 <= (i : Int) /\ ∃ b : UInt8, s[i.toNat]? = some b /\ Calls P 206 ⟨[(.int .u8 ((b.toNat : Nat) : Int))]⟩ wv fun e a2 =>
 ∃ a3, e = .returned (.bool a3) /\
 ((!a3) = true ->
 R (.bool false) a2) /\
 ((!a3) = false ->
 ∃ t9 : Int, t9 = IntKind.wrap .i64 (i + 1) /\ a0 t9 a2 /\ mu t9 a2 < mu i wv)) /\
 ((decide ((i : Int) < ((s.size : Nat) : Int))) = false ->
 R (.bool (decide (s ≠ (S [])))) wv)
theorem impl_IsDigits_ret {s : ByteArray} (h : impl_IsDigits s w R) : Ret P 233 [.string s] w R := Ret.of_fsem Tryz.func233 rfl (Eq.mp (show _ = fsem P Tryz.f233 (fun k => cond (Nat.beq k 3) [(3, .one (.int .i64))] ([])) _ R w from by kernel_rfl) h)
def spec_l03Div_j0 (a0 : World) (a1 : Option Addr -> Nat -> Nat -> Int -> World -> Prop) (mu : Option Addr -> Nat -> Nat -> Int -> World -> Nat) (a2 : Option Addr) (a3 a4 : Nat) (i : Int) (a5 : Option Addr) (a6 a7 : Nat) (W : World) (R : Value -> World -> Prop) : Prop :=
 ∃ a8 : Int, a8 = IntKind.wrap .i64 (i - 1) /\ a1 a5 a6 a7 a8 W /\ mu a5 a6 a7 a8 W < mu a2 a3 a4 i a0
def spec_l03Div (a0 : Option Addr) (a1 a2 : Nat) (a3 : Option Addr) (a4 a5 : Nat) (w : World) (R : Value -> World -> Prop) : Prop :=
 ((decide ((((a4 : Nat) : Int) : Int) = 1)) = true ->
 (0 <= (0 : Int) /\ (0 : Int) < (a4 : Nat)) /\ ptrS a3 fun ad => ∃ a6, Loads P 3 (ad.add (0 * 1)) (.int .i64 a6) w /\ Calls P 286 ⟨[.slice a0 a1 a2, .int .i64 a6]⟩ w fun e wv =>
 ∃ a7 a8 a9 aa, e = .returned (.tuple #[.slice a7 a8 a9, .int .i64 aa]) /\
 Calls P 165 ⟨[.int .i64 aa]⟩ wv fun ab ac =>
 ∃ ae af ag, ab = .returned (.slice ae af ag) /\
 R (.tuple #[.slice a7 a8 a9, .slice ae af ag]) ac) /\
 ((decide ((((a4 : Nat) : Int) : Int) = 1)) = false ->
 (0 <= (((a1 : Nat) : Int) : Int) /\ (((a1 : Nat) : Int) : Int) <= ((a1 : Nat) : Int) /\ ((8 : Nat) : Int) * ((a1 : Nat) : Int) <= 281474976710656) /\
 ∀ r ah, New w (.cells ⟨zeroRow (.int .i64 0) (a1 * 1)⟩ 3 (0, 0)) r ah ->
 ∀ ai aj, New ah (.cells ⟨[]⟩ 3 (0, 0)) ai aj ->
 ∃ ak : Int, ak = IntKind.wrap .i64 (((a1 : Nat) : Int) - 1) /\ ∃ (al : Option Addr -> Nat -> Nat -> Int -> World -> Prop) (mu : Option Addr -> Nat -> Nat -> Int -> World -> Nat), al (some ⟨ai, 0, none⟩) 0 0 ak aj /\
 ∀ (am : Fr) (an : World) (ao : Option Addr) (ap aq : Nat) (i : Int), al ao ap aq i an ->
 ((decide ((0 : Int) <= i)) = true ->
 (0 <= (i : Int) /\ (i : Int) < (a1 : Nat)) /\ ptrS a0 fun ar => ∃ au, Loads P 3 (ar.add (i.toNat * 1)) (.int .i64 au) an /\ ∀ av aw, New an (.cells ⟨[.int .i64 au]⟩ 3 (0, 0)) av aw ->
 ∃ ax ay az b0, Appends P [29, 29] [(.slice (some ⟨av, 0, none⟩) 1 1), .slice ao ap aq] (.slice ax ay az) aw b0 /\
 Calls P 230 ⟨[.slice ax ay az]⟩ b0 fun b1 b2 =>
 ∃ b3 b4 b5, b1 = .returned (.slice b3 b4 b5) /\
 Calls P 192 ⟨[.slice b3 b4 b5, .slice a3 a4 a5]⟩ b2 fun b6 b7 =>
 ∃ b8, b6 = .returned (.int .i64 b8) /\
 ((decide ((b8 : Int) < 0)) = true ->
 spec_l03Div_j0 an al mu ao ap aq i b3 b4 b5 b7 R) /\
 ((decide ((b8 : Int) < 0)) = false ->
 Calls P 287 ⟨[.slice b3 b4 b5, .slice a3 a4 a5]⟩ b7 fun b9 ba =>
 ∃ bb, b9 = .returned (.int .i64 bb) /\
 (0 <= (i : Int) /\ (i : Int) < (a1 : Nat)) /\ ∃ wv_10, Stores P 3 ((⟨r, 0, none⟩ : Addr).add (i.toNat * 1)) (.int .i64 bb) ba wv_10 /\
 Calls P 165 ⟨[.int .i64 bb]⟩ wv_10 fun bc bd =>
 ∃ be bf bg, bc = .returned (.slice be bf bg) /\
 Calls P 289 ⟨[.slice a3 a4 a5, .slice be bf bg]⟩ bd fun bh bi =>
 ∃ bj bk bl, bh = .returned (.slice bj bk bl) /\
 Calls P 288 ⟨[.slice b3 b4 b5, .slice bj bk bl]⟩ bi fun bm bn =>
 ∃ bo bp bq, bm = .returned (.slice bo bp bq) /\
 spec_l03Div_j0 an al mu ao ap aq i bo bp bq bn R)) /\
 ((decide ((0 : Int) <= i)) = false ->
 Calls P 230 ⟨[(.slice (some ⟨r, 0, none⟩) a1 a1)]⟩ an fun br bs =>
 ∃ bt bu bv, br = .returned (.slice bt bu bv) /\
 R (.tuple #[.slice bt bu bv, .slice ao ap aq]) bs))
theorem spec_l03Div_ret {a : Option Addr} {a0 a1 : Nat} {a2 : Option Addr} {a3 a4 : Nat} (h : spec_l03Div a a0 a1 a2 a3 a4 w R) : Ret P 235 [.slice a a0 a1, .slice a2 a3 a4] w R := Ret.of_fsem Tryz.func235 rfl (Eq.mp (show _ = fsem P Tryz.f235 (fun k => cond (Nat.beq k 8) [(9, .one .slice), (10, .one (.int .i64))] ([])) _ R w from by kernel_rfl) h)
end Go.Proofs.YtbgokfhcgcoipaaGreatDoor
namespace Go.Proofs.YtbgokfhcgcoipaaGreatDoor
variable {w : World} {R : Value -> World -> Prop}
open Go Go.Proofs.YtbgokfhcgcoipaaGreatDoor.Sx
set_option maxRecDepth 100000
def impl_isMode (m : Int) (w : World) (R : Value -> World -> Prop) : Prop :=
 ((decide ((0 : Int) <= m)) = true ->
 R (.bool (decide ((m : Int) <= 6))) w) /\
 ((decide ((0 : Int) <= m)) = false ->
 R (.bool false) w)
theorem impl_isMode_ret {m : Int} (h : impl_isMode m w R) : Ret P 279 [.int .i64 m] w R := Ret.of_fsem Tryz.func279 rfl (Eq.mp (show _ = fsem P Tryz.f279 (fun k => []) _ R w from by kernel_rfl) h)
def impl_roundQuotient_j0 (r a0 : Nat) (a1 : Option Addr) (a2 a3 : Nat) (W : World) (R : Value -> World -> Prop) : Prop :=
 ∃ a4, Loads P 4 ((⟨r, 0, none⟩ : Addr).add 0) (.bool a4) W /\ Calls P 170 ⟨[.bool a4, .slice a1 a2 a3]⟩ W fun a5 a6 =>
 ∃ a7 a8 a9 aa, a5 = .returned (.agg #[.bool a7, .slice a8 a9 aa]) /\
 ∃ wv_12, Stores P 31 ⟨a0, 0, none⟩ (.agg #[.bool a7, .slice a8 a9 aa]) a6 wv_12 /\
 ∃ r0 ab ac ae, Loads P 31 ⟨a0, 0, none⟩ (.agg #[.bool r0, .slice ab ac ae]) wv_12 /\ R (.agg #[.bool r0, .slice ab ac ae]) wv_12
def impl_roundQuotient (num0 : Bool) (a0 : Option Addr) (a1 a2 : Nat) (a3 : Option Addr) (a4 a5 : Nat) (m : Int) (w : World) (R : Value -> World -> Prop) : Prop :=
 ∀ r wv, New w (.cells ⟨[.bool num0, .slice a0 a1 a2]⟩ 31 (0, 0)) r wv ->
 ∀ a6 a7, New wv (.cells ⟨[.bool false, .slice none 0 0]⟩ 31 (0, 0)) a6 a7 ->
 ∃ a8 a9 aa, Loads P 29 ((⟨r, 0, none⟩ : Addr).add 1) (.slice a8 a9 aa) a7 /\ Calls P 180 ⟨[.slice a8 a9 aa, .slice a3 a4 a5]⟩ a7 fun e ab =>
 ∃ ac ae af ag ah ai, e = .returned (.tuple #[.slice ac ae af, .slice ag ah ai]) /\
 ((decide ((0 : Int) < ((ah : Nat) : Int))) = true ->
 Calls P 316 ⟨[]⟩ ab.drew fun aj ak =>
 ∃ (al : ByteArray) (am : Value) (an : ByteArray) (ao : Value) (ap : ByteArray) (aq : Value) (ar : ByteArray) (au : Value) (av : ByteArray) (aw : Value) (ax : ByteArray) (ay : Value) (az : ByteArray) (b0 : Value), aj = .returned (.agg #[.string al, am, .string an, ao, .string ap, aq, .string ar, au, .string av, aw, .string ax, ay, .string az, b0]) /\
 Ext ab.drew ak /\ indexS P 316 (.agg #[.string al, am, .string an, ao, .string ap, aq, .string ar, au, .string av, aw, .string ax, ay, .string az, b0]) (.int .i64 m) fun (el : Value) => fieldS P 315 el 1 fun (fl : Value) => ∃ b1, (∀ wv_4, Ext ab.drew wv_4 -> Loads P 4 ((⟨r, 0, none⟩ : Addr).add 0) (.bool b1) wv_4) /\ Calls P 171 ⟨[.slice ag ah ai, .slice ag ah ai]⟩ ak fun b2 b3 =>
 ∃ b4 b5 b6, b2 = .returned (.slice b4 b5 b6) /\
 Ext ak b3 /\ Calls P 127 ⟨[.slice b4 b5 b6, .slice a3 a4 a5]⟩ b3 fun b7 b8 =>
 ∃ b9, b7 = .returned (.int .i64 b9) /\
 Ext b3 b8 /\ Calls P 317 ⟨[.slice ac ae af]⟩ b8 fun ba bb =>
 ∃ bc, ba = .returned (.bool bc) /\
 Ext b8 bb /\ CallW P fl [.bool b1, .int .i64 b9, (.bool (!bc))] bb fun bd be =>
 ∃ bf, bd = .returned (.bool bf) /\
 (bf = true ->
 ∀ bg bh, New be (.cells ⟨[.int .i64 1]⟩ 3 (0, 0)) bg bh ->
 Calls P 171 ⟨[.slice ac ae af, (.slice (some ⟨bg, 0, none⟩) 1 1)]⟩ bh fun bi bj =>
 ∃ bk bl bm, bi = .returned (.slice bk bl bm) /\
 impl_roundQuotient_j0 r a6 bk bl bm bj R) /\
 (bf = false ->
 impl_roundQuotient_j0 r a6 ac ae af be R)) /\
 ((decide ((0 : Int) < ((ah : Nat) : Int))) = false ->
 (false = true ->
 ∀ bn bo, New ab.drew (.cells ⟨[.int .i64 1]⟩ 3 (0, 0)) bn bo ->
 Calls P 171 ⟨[.slice ac ae af, (.slice (some ⟨bn, 0, none⟩) 1 1)]⟩ bo fun bp bq =>
 ∃ br bs bt, bp = .returned (.slice br bs bt) /\
 impl_roundQuotient_j0 r a6 br bs bt bq R) /\
 (false = false ->
 impl_roundQuotient_j0 r a6 ac ae af ab.drew R))
theorem impl_roundQuotient_ret {a : Bool} {a0 : Option Addr} {a1 a2 : Nat} {a3 : Option Addr} {a4 a5 : Nat} {m : Int} (h : impl_roundQuotient a a0 a1 a2 a3 a4 a5 m w R) : Ret P 280 [.agg #[.bool a, .slice a0 a1 a2], .slice a3 a4 a5, .int .i64 m] w R := Ret.of_fsem Tryz.func280 rfl (Eq.mp (show _ = fsem P Tryz.f280 (fun k => []) _ R w from by kernel_rfl) h)
def impl_subTimes_j0 (a0 : Option Addr) (a1 : Nat) (wv : World) (a2 : Int -> Int -> World -> Prop) (mu : Int -> Int -> World -> Nat) (borrow a3 : Int) (borrow_1 n : Int) (W : World) (R : Value -> World -> Prop) : Prop :=
 (0 <= (a3 : Int) /\ (a3 : Int) < (a1 : Nat)) /\ ptrS a0 fun a4 => ∃ wv_1, Stores P 3 (a4.add (a3.toNat * 1)) (.int .i64 n) W wv_1 /\
 ∃ a5 : Int, a5 = IntKind.wrap .i64 (a3 + 1) /\ a2 borrow_1 a5 wv_1 /\ mu borrow_1 a5 wv_1 < mu borrow a3 wv
def impl_subTimes (a0 : Option Addr) (a1 a2 : Nat) (a3 : Option Addr) (a4 a5 : Nat) (q : Int) (w : World) (R : Value -> World -> Prop) : Prop :=
 ∃ (a6 : Int -> Int -> World -> Prop) (mu : Int -> Int -> World -> Nat), a6 0 0 w /\
 ∀ (a7 : Fr) (wv : World) (borrow a8 : Int), a6 borrow a8 wv ->
 ((decide ((a8 : Int) < ((a4 : Nat) : Int))) = true ->
 (0 <= (a8 : Int) /\ (a8 : Int) < (a4 : Nat)) /\ ptrS a3 fun ad => ∃ a9, Loads P 3 (ad.add (a8.toNat * 1)) (.int .i64 a9) wv /\ (0 <= (a8 : Int) /\ (a8 : Int) < (a1 : Nat)) /\ ptrS a0 fun aa => ∃ ab, Loads P 3 (aa.add (a8.toNat * 1)) (.int .i64 ab) wv /\ ∃ ac : Int, ac = IntKind.wrap .i64 (a9 * q) /\ ∃ ae : Int, ae = IntKind.wrap .i64 (ab - ac) /\ ∃ af : Int, af = IntKind.wrap .i64 (ae - borrow) /\ ((decide ((af : Int) < 0)) = true ->
 ∃ ag : Int, ag = IntKind.wrap .i64 (0 - af) /\ ∃ ah : Int, ah = IntKind.wrap .i64 (ag + 1000000000) /\ ∃ ai : Int, ai = IntKind.wrap .i64 (ah - 1) /\ (1000000000 : Int) ≠ 0 /\ ∃ aj : Int, aj = IntKind.wrap .i64 (Int.tdiv ai 1000000000) /\ ∃ ak : Int, ak = IntKind.wrap .i64 (aj * 1000000000) /\ ∃ al : Int, al = IntKind.wrap .i64 (af + ak) /\ impl_subTimes_j0 a0 a1 wv a6 mu borrow a8 aj al wv R) /\
 ((decide ((af : Int) < 0)) = false ->
 impl_subTimes_j0 a0 a1 wv a6 mu borrow a8 0 af wv R)) /\
 ((decide ((a8 : Int) < ((a4 : Nat) : Int))) = false ->
 (0 <= (((a4 : Nat) : Int) : Int) /\ (((a4 : Nat) : Int) : Int) < (a1 : Nat)) /\ ptrS a0 fun am => ∃ an, Loads P 3 (am.add (a4 * 1)) (.int .i64 an) wv /\ ∃ ao : Int, ao = IntKind.wrap .i64 (an - borrow) /\ (0 <= (((a4 : Nat) : Int) : Int) /\ (((a4 : Nat) : Int) : Int) < (a1 : Nat)) /\ ptrS a0 fun ap => ∃ wv_2, Stores P 3 (ap.add (a4 * 1)) (.int .i64 ao) wv wv_2 /\
 (0 <= (((a4 : Nat) : Int) : Int) /\ (((a4 : Nat) : Int) : Int) < (a1 : Nat)) /\ ptrS a0 fun aq => ∃ ar, Loads P 3 (aq.add (a4 * 1)) (.int .i64 ar) wv_2 /\ R (.bool (decide ((ar : Int) < 0))) wv_2)
theorem impl_subTimes_ret {a : Option Addr} {a0 a1 : Nat} {a2 : Option Addr} {a3 a4 : Nat} {q : Int} (h : impl_subTimes a a0 a1 a2 a3 a4 q w R) : Ret P 281 [.slice a a0 a1, .slice a2 a3 a4, .int .i64 q] w R := Ret.of_fsem Tryz.func281 rfl (Eq.mp (show _ = fsem P Tryz.f281 (fun k => cond (Nat.beq k 4) [(7, .one (.int .i64)), (13, .one (.int .i64))] ([])) _ R w from by kernel_rfl) h)
def impl_addBack (a0 : Option Addr) (a1 a2 : Nat) (a3 : Option Addr) (a4 a5 : Nat) (w : World) (R : Value -> World -> Prop) : Prop :=
 ∃ (a6 : Int -> Int -> World -> Prop) (mu : Int -> Int -> World -> Nat), a6 0 0 w /\
 ∀ (a7 : Fr) (wv : World) (carry t9 : Int), a6 carry t9 wv ->
 ((decide ((t9 : Int) < ((a4 : Nat) : Int))) = true ->
 (0 <= (t9 : Int) /\ (t9 : Int) < (a4 : Nat)) /\ ptrS a3 fun ad => ∃ a8, Loads P 3 (ad.add (t9.toNat * 1)) (.int .i64 a8) wv /\ (0 <= (t9 : Int) /\ (t9 : Int) < (a1 : Nat)) /\ ptrS a0 fun a9 => ∃ aa, Loads P 3 (a9.add (t9.toNat * 1)) (.int .i64 aa) wv /\ ∃ ab : Int, ab = IntKind.wrap .i64 (aa + a8) /\ ∃ ac : Int, ac = IntKind.wrap .i64 (carry + ab) /\ (1000000000 : Int) ≠ 0 /\ ∃ ae : Int, ae = Int.tmod ac 1000000000 /\ (0 <= (t9 : Int) /\ (t9 : Int) < (a1 : Nat)) /\ ptrS a0 fun af => ∃ wv_1, Stores P 3 (af.add (t9.toNat * 1)) (.int .i64 ae) wv wv_1 /\
 (1000000000 : Int) ≠ 0 /\ ∃ ag : Int, ag = IntKind.wrap .i64 (Int.tdiv ac 1000000000) /\ ∃ ah : Int, ah = IntKind.wrap .i64 (t9 + 1) /\ a6 ag ah wv_1 /\ mu ag ah wv_1 < mu carry t9 wv) /\
 ((decide ((t9 : Int) < ((a4 : Nat) : Int))) = false ->
 (0 <= (((a4 : Nat) : Int) : Int) /\ (((a4 : Nat) : Int) : Int) < (a1 : Nat)) /\ ptrS a0 fun ai => ∃ aj, Loads P 3 (ai.add (a4 * 1)) (.int .i64 aj) wv /\ ∃ ak : Int, ak = IntKind.wrap .i64 (aj + carry) /\ (0 <= (((a4 : Nat) : Int) : Int) /\ (((a4 : Nat) : Int) : Int) < (a1 : Nat)) /\ ptrS a0 fun al => ∃ wv_2, Stores P 3 (al.add (a4 * 1)) (.int .i64 ak) wv wv_2 /\
 R (.tuple #[]) wv_2)
theorem impl_addBack_ret {a : Option Addr} {a0 a1 : Nat} {a2 : Option Addr} {a3 a4 : Nat} (h : impl_addBack a a0 a1 a2 a3 a4 w R) : Ret P 282 [.slice a a0 a1, .slice a2 a3 a4] w R := Ret.of_fsem Tryz.func282 rfl (Eq.mp (show _ = fsem P Tryz.f282 (fun k => cond (Nat.beq k 3) [(4, .one (.int .i64)), (9, .one (.int .i64))] ([])) _ R w from by kernel_rfl) h)
def spec_l03Small (a0 : Option Addr) (a1 a2 : Nat) (d : Int) (w : World) (R : Value -> World -> Prop) : Prop :=
 (0 <= (((a1 : Nat) : Int) : Int) /\ (((a1 : Nat) : Int) : Int) <= ((a1 : Nat) : Int) /\ ((8 : Nat) : Int) * ((a1 : Nat) : Int) <= 281474976710656) /\
 ∀ r wv, New w (.cells ⟨zeroRow (.int .i64 0) (a1 * 1)⟩ 3 (0, 0)) r wv ->
 ∃ a3 : Int, a3 = IntKind.wrap .i64 (((a1 : Nat) : Int) - 1) /\ ∃ (a4 : Int -> Int -> World -> Prop) (mu : Int -> Int -> World -> Nat), a4 0 a3 wv /\
 ∀ (a5 : Fr) (a6 : World) (rest i : Int), a4 rest i a6 ->
 ((decide ((0 : Int) <= i)) = true ->
 ∃ a7 : Int, a7 = IntKind.wrap .i64 (rest * 1000000000) /\ (0 <= (i : Int) /\ (i : Int) < (a1 : Nat)) /\ ptrS a0 fun ad => ∃ a8, Loads P 3 (ad.add (i.toNat * 1)) (.int .i64 a8) a6 /\ ∃ a9 : Int, a9 = IntKind.wrap .i64 (a7 + a8) /\ (d : Int) ≠ 0 /\ ∃ aa : Int, aa = IntKind.wrap .i64 (Int.tdiv a9 d) /\ (0 <= (i : Int) /\ (i : Int) < (a1 : Nat)) /\ ∃ wv_2, Stores P 3 ((⟨r, 0, none⟩ : Addr).add (i.toNat * 1)) (.int .i64 aa) a6 wv_2 /\
 (d : Int) ≠ 0 /\ ∃ ab : Int, ab = Int.tmod a9 d /\ ∃ ac : Int, ac = IntKind.wrap .i64 (i - 1) /\ a4 ab ac wv_2 /\ mu ab ac wv_2 < mu rest i a6) /\
 ((decide ((0 : Int) <= i)) = false ->
 Calls P 230 ⟨[(.slice (some ⟨r, 0, none⟩) a1 a1)]⟩ a6 fun e ae =>
 ∃ af ag ah, e = .returned (.slice af ag ah) /\
 R (.tuple #[.slice af ag ah, .int .i64 rest]) ae)
theorem spec_l03Small_ret {a : Option Addr} {a0 a1 : Nat} {d : Int} (h : spec_l03Small a a0 a1 d w R) : Ret P 286 [.slice a a0 a1, .int .i64 d] w R := Ret.of_fsem Tryz.func286 rfl (Eq.mp (show _ = fsem P Tryz.f286 (fun k => cond (Nat.beq k 5) [(7, .one (.int .i64)), (8, .one (.int .i64))] ([])) _ R w from by kernel_rfl) h)
def spec_l03Digit (a0 : Option Addr) (a1 a2 : Nat) (a3 : Option Addr) (a4 a5 : Nat) (w : World) (R : Value -> World -> Prop) : Prop :=
 ∃ (a6 : Int -> Int -> World -> Prop) (mu : Int -> Int -> World -> Nat), a6 0 999999999 w /\
 ∀ (a7 : Fr) (wv : World) (lo hi : Int), a6 lo hi wv ->
 ((decide ((lo : Int) < hi)) = true ->
 ∃ a8 : Int, a8 = IntKind.wrap .i64 (lo + hi) /\ ∃ a9 : Int, a9 = IntKind.wrap .i64 (a8 + 1) /\ (2 : Int) ≠ 0 /\ ∃ aa : Int, aa = IntKind.wrap .i64 (Int.tdiv a9 2) /\ Calls P 165 ⟨[.int .i64 aa]⟩ wv fun e ab =>
 ∃ ac ae af, e = .returned (.slice ac ae af) /\
 Calls P 289 ⟨[.slice a3 a4 a5, .slice ac ae af]⟩ ab fun ag ah =>
 ∃ ai aj ak, ag = .returned (.slice ai aj ak) /\
 Calls P 192 ⟨[.slice ai aj ak, .slice a0 a1 a2]⟩ ah fun al am =>
 ∃ an, al = .returned (.int .i64 an) /\
 ((decide ((an : Int) <= 0)) = true ->
 a6 aa hi am /\ mu aa hi am < mu lo hi wv) /\
 ((decide ((an : Int) <= 0)) = false ->
 ∃ ao : Int, ao = IntKind.wrap .i64 (aa - 1) /\ a6 lo ao am /\ mu lo ao am < mu lo hi wv)) /\
 ((decide ((lo : Int) < hi)) = false ->
 R (.int .i64 lo) wv)
theorem spec_l03Digit_ret {a : Option Addr} {a0 a1 : Nat} {a2 : Option Addr} {a3 a4 : Nat} (h : spec_l03Digit a a0 a1 a2 a3 a4 w R) : Ret P 287 [.slice a a0 a1, .slice a2 a3 a4] w R := Ret.of_fsem Tryz.func287 rfl (Eq.mp (show _ = fsem P Tryz.f287 (fun k => cond (Nat.beq k 4) [(5, .one (.int .i64)), (6, .one (.int .i64))] ([])) _ R w from by kernel_rfl) h)
def spec_l02Sub_j1 (a0 : World) (a1 : Option Addr -> Nat -> Nat -> Int -> Int -> World -> Prop) (mu : Option Addr -> Nat -> Nat -> Int -> Int -> World -> Nat) (a2 : Option Addr) (a3 a4 : Nat) (less a5 : Int) (less_1 n_1 : Int) (a6 : World) (R : Value -> World -> Prop) : Prop :=
 ∀ a7 a8, New a6 (.cells ⟨[.int .i64 n_1]⟩ 3 (0, 0)) a7 a8 ->
 ∃ a9 aa ab ac, Appends P [29, 29] [.slice a2 a3 a4, (.slice (some ⟨a7, 0, none⟩) 1 1)] (.slice a9 aa ab) a8 ac /\
 ∃ ae : Int, ae = IntKind.wrap .i64 (a5 + 1) /\ a1 a9 aa ab less_1 ae ac /\ mu a9 aa ab less_1 ae ac < mu a2 a3 a4 less a5 a0
def spec_l02Sub_j0 (a0 : World) (a1 : Option Addr -> Nat -> Nat -> Int -> Int -> World -> Prop) (mu : Option Addr -> Nat -> Nat -> Int -> Int -> World -> Nat) (a2 : Option Addr) (a3 a4 : Nat) (less a5 n : Int) (W : World) (R : Value -> World -> Prop) : Prop :=
 ((decide ((n : Int) < 0)) = true ->
 ∃ a6 : Int, a6 = IntKind.wrap .i64 (n + 1000000000) /\ spec_l02Sub_j1 a0 a1 mu a2 a3 a4 less a5 1 a6 W R) /\
 ((decide ((n : Int) < 0)) = false ->
 spec_l02Sub_j1 a0 a1 mu a2 a3 a4 less a5 0 n W R)
def spec_l02Sub (a0 : Option Addr) (a1 a2 : Nat) (a3 : Option Addr) (a4 a5 : Nat) (w : World) (R : Value -> World -> Prop) : Prop :=
 ∀ r wv, New w (.cells ⟨[]⟩ 3 (0, 0)) r wv ->
 ∃ (a6 : Option Addr -> Nat -> Nat -> Int -> Int -> World -> Prop) (mu : Option Addr -> Nat -> Nat -> Int -> Int -> World -> Nat), a6 (some ⟨r, 0, none⟩) 0 0 0 0 wv /\
 ∀ (a7 : Fr) (a8 : World) (a9 : Option Addr) (aa ab : Nat) (less ac : Int), a6 a9 aa ab less ac a8 ->
 ((decide ((ac : Int) < ((a1 : Nat) : Int))) = true ->
 (0 <= (ac : Int) /\ (ac : Int) < (a1 : Nat)) /\ ptrS a0 fun ad => ∃ ae, Loads P 3 (ad.add (ac.toNat * 1)) (.int .i64 ae) a8 /\ ∃ af : Int, af = IntKind.wrap .i64 (ae - less) /\ ((decide ((ac : Int) < ((a4 : Nat) : Int))) = true ->
 (0 <= (ac : Int) /\ (ac : Int) < (a4 : Nat)) /\ ptrS a3 fun ag => ∃ ah, Loads P 3 (ag.add (ac.toNat * 1)) (.int .i64 ah) a8 /\ ∃ ai : Int, ai = IntKind.wrap .i64 (af - ah) /\ spec_l02Sub_j0 a8 a6 mu a9 aa ab less ac ai a8 R) /\
 ((decide ((ac : Int) < ((a4 : Nat) : Int))) = false ->
 spec_l02Sub_j0 a8 a6 mu a9 aa ab less ac af a8 R)) /\
 ((decide ((ac : Int) < ((a1 : Nat) : Int))) = false ->
 Calls P 230 ⟨[.slice a9 aa ab]⟩ a8 fun e aj =>
 ∃ ak al am, e = .returned (.slice ak al am) /\
 R (.slice ak al am) aj)
theorem spec_l02Sub_ret {a : Option Addr} {a0 a1 : Nat} {a2 : Option Addr} {a3 a4 : Nat} (h : spec_l02Sub a a0 a1 a2 a3 a4 w R) : Ret P 288 [.slice a a0 a1, .slice a2 a3 a4] w R := Ret.of_fsem Tryz.func288 rfl (Eq.mp (show _ = fsem P Tryz.f288 (fun k => cond (Nat.beq k 5) [(5, .one .slice), (6, .one (.int .i64)), (12, .one (.int .i64))] ([])) _ R w from by kernel_rfl) h)
def spec_l02Mul_j0 (a0 : Option Addr) (a1 : Nat) (a2 : Option Addr) (a3 : Nat) (W : World) (R : Value -> World -> Prop) : Prop :=
 ∃ a4 : Int, a4 = IntKind.wrap .i64 (((a1 : Nat) : Int) + ((a3 : Nat) : Int)) /\ (0 <= (a4 : Int) /\ (a4 : Int) <= a4 /\ ((8 : Nat) : Int) * a4 <= 281474976710656) /\
 ∀ r wv, New W (.cells ⟨zeroRow (.int .i64 0) (a4.toNat * 1)⟩ 3 (0, 0)) r wv ->
 ∃ (a5 : Int -> World -> Prop) (mu : Int -> World -> Nat), a5 0 wv /\
 ∀ (a6 : Fr) (a7 : World) (a8 : Int), a5 a8 a7 ->
 ((decide ((a8 : Int) < ((a1 : Nat) : Int))) = true ->
 (0 <= (a8 : Int) /\ (a8 : Int) < (a1 : Nat)) /\ ptrS a0 fun ad => ∃ a9, Loads P 3 (ad.add (a8.toNat * 1)) (.int .i64 a9) a7 /\ ∃ (aa : Int -> Int -> World -> Prop) (ab : Int -> Int -> World -> Nat), aa 0 0 a7 /\
 ∀ (ac : Fr) (ae : World) (carry af : Int), aa carry af ae ->
 ((decide ((af : Int) < ((a3 : Nat) : Int))) = true ->
 (0 <= (af : Int) /\ (af : Int) < (a3 : Nat)) /\ ptrS a2 fun ag => ∃ ah, Loads P 3 (ag.add (af.toNat * 1)) (.int .i64 ah) ae /\ ∃ ai : Int, ai = IntKind.wrap .i64 (a8 + af) /\ (0 <= (ai : Int) /\ (ai : Int) < (a4.toNat : Nat)) /\ ∃ aj, Loads P 3 ((⟨r, 0, none⟩ : Addr).add (ai.toNat * 1)) (.int .i64 aj) ae /\ ∃ ak : Int, ak = IntKind.wrap .i64 (a9 * ah) /\ ∃ al : Int, al = IntKind.wrap .i64 (aj + ak) /\ ∃ am : Int, am = IntKind.wrap .i64 (al + carry) /\ ∃ an : Int, an = IntKind.wrap .i64 (a8 + af) /\ (1000000000 : Int) ≠ 0 /\ ∃ ao : Int, ao = Int.tmod am 1000000000 /\ (0 <= (an : Int) /\ (an : Int) < (a4.toNat : Nat)) /\ ∃ wv_3, Stores P 3 ((⟨r, 0, none⟩ : Addr).add (an.toNat * 1)) (.int .i64 ao) ae wv_3 /\
 (1000000000 : Int) ≠ 0 /\ ∃ ap : Int, ap = IntKind.wrap .i64 (Int.tdiv am 1000000000) /\ ∃ aq : Int, aq = IntKind.wrap .i64 (af + 1) /\ aa ap aq wv_3 /\ ab ap aq wv_3 < ab carry af ae) /\
 ((decide ((af : Int) < ((a3 : Nat) : Int))) = false ->
 ∃ ar : Int, ar = IntKind.wrap .i64 (a8 + ((a3 : Nat) : Int)) /\ (0 <= (ar : Int) /\ (ar : Int) < (a4.toNat : Nat)) /\ ∃ wv_4, Stores P 3 ((⟨r, 0, none⟩ : Addr).add (ar.toNat * 1)) (.int .i64 carry) ae wv_4 /\
 ∃ au : Int, au = IntKind.wrap .i64 (a8 + 1) /\ a5 au wv_4 /\ mu au wv_4 < mu a8 a7)) /\
 ((decide ((a8 : Int) < ((a1 : Nat) : Int))) = false ->
 Calls P 230 ⟨[(.slice (some ⟨r, 0, none⟩) a4.toNat a4.toNat)]⟩ a7 fun e av =>
 ∃ aw ax ay, e = .returned (.slice aw ax ay) /\
 R (.slice aw ax ay) av)
def spec_l02Mul (a0 : Option Addr) (a1 a2 : Nat) (a3 : Option Addr) (a4 a5 : Nat) (w : World) (R : Value -> World -> Prop) : Prop :=
 ((decide ((((a1 : Nat) : Int) : Int) = 0)) = true ->
 (true = true ->
 R (.slice none 0 0) w) /\
 (true = false ->
 spec_l02Mul_j0 a0 a1 a3 a4 w R)) /\
 ((decide ((((a1 : Nat) : Int) : Int) = 0)) = false ->
 ((decide ((((a4 : Nat) : Int) : Int) = 0)) = true ->
 R (.slice none 0 0) w) /\
 ((decide ((((a4 : Nat) : Int) : Int) = 0)) = false ->
 spec_l02Mul_j0 a0 a1 a3 a4 w R))
theorem spec_l02Mul_ret {a : Option Addr} {a0 a1 : Nat} {a2 : Option Addr} {a3 a4 : Nat} (h : spec_l02Mul a a0 a1 a2 a3 a4 w R) : Ret P 289 [.slice a a0 a1, .slice a2 a3 a4] w R := Ret.of_fsem Tryz.func289 rfl (Eq.mp (show _ = fsem P Tryz.f289 (fun k => cond (Nat.beq k 6) [(28, .one (.int .i64))] (cond (Nat.beq k 10) [(8, .one (.int .i64)), (35, .one (.int .i64))] ([]))) _ R w from by kernel_rfl) h)
def impl_roundModes (w : World) (R : Value -> World -> Prop) : Prop :=
 ∀ r wv, New w (.cells ⟨[.string ByteArray.empty, .nilFunc, .string ByteArray.empty, .nilFunc, .string ByteArray.empty, .nilFunc, .string ByteArray.empty, .nilFunc, .string ByteArray.empty, .nilFunc, .string ByteArray.empty, .nilFunc, .string ByteArray.empty, .nilFunc]⟩ 316 (0, 0)) r wv ->
 ∃ wv_1, Stores P 316 ⟨r, 0, none⟩ (.agg #[(.string (S [100, 111, 119, 110])), (.func (.func 339) #[] #[]), (.string (S [117, 112])), (.func (.func 340) #[] #[]), (.string (S [102, 108, 111, 111, 114])), (.func (.func 341) #[] #[]), (.string (S [99, 101, 105, 108])), (.func (.func 342) #[] #[]), (.string (S [104, 97, 108, 102, 100, 111, 119, 110])), (.func (.func 343) #[] #[]), (.string (S [104, 97, 108, 102, 117, 112])), (.func (.func 344) #[] #[]), (.string (S [104, 97, 108, 102, 101, 118, 101, 110])), (.func (.func 345) #[] #[])]) wv wv_1 /\
 ∃ (r0 : ByteArray) (r1 : Value) (r2 : ByteArray) (r3 : Value) (r4 : ByteArray) (r5 : Value) (r6 : ByteArray) (r7 : Value) (r8 : ByteArray) (r9 : Value) (r10 : ByteArray) (r11 : Value) (r12 : ByteArray) (r13 : Value), Loads P 316 ⟨r, 0, none⟩ (.agg #[.string r0, r1, .string r2, r3, .string r4, r5, .string r6, r7, .string r8, r9, .string r10, r11, .string r12, r13]) wv_1 /\ R (.agg #[.string r0, r1, .string r2, r3, .string r4, r5, .string r6, r7, .string r8, r9, .string r10, r11, .string r12, r13]) wv_1
theorem impl_roundModes_eq (w : World) (R : Value -> World -> Prop) : impl_roundModes w R = fsem P Tryz.f316 (fun k => []) [] R w := by kernel_rfl
set_option maxHeartbeats 4000000 in
theorem impl_roundModes_ret {w : World} {R : Value -> World -> Prop} (h : impl_roundModes w R) : Ret P 316 [] w R := by
  have h2 := impl_roundModes_eq w R
  have h3 : fsem P Tryz.f316 (fun k => []) [] R w := by rw [<- h2]; exact h
  exact Ret.of_fsem (fn := Tryz.f316) (car := (fun k => [])) (args := []) (w := w) (R := R) Tryz.func316 rfl h3
def impl_NatEven (a0 : Option Addr) (a1 a2 : Nat) (w : World) (R : Value -> World -> Prop) : Prop :=
 Calls P 173 ⟨[.slice a0 a1 a2]⟩ w fun e wv =>
 ∃ t4, e = .returned (.bool t4) /\
 (t4 = true ->
 ((decide ((((a1 : Nat) : Int) : Int) = 0)) = true ->
 R (.bool true) wv) /\
 ((decide ((((a1 : Nat) : Int) : Int) = 0)) = false ->
 (0 <= (0 : Int) /\ (0 : Int) < (a1 : Nat)) /\ ptrS a0 fun ad => ∃ a3, Loads P 3 (ad.add (0 * 1)) (.int .i64 a3) wv /\ (2 : Int) ≠ 0 /\ ∃ a4 : Int, a4 = Int.tmod a3 2 /\ R (.bool (decide ((a4 : Int) = 0))) wv)) /\
 (t4 = false ->
 R (.bool false) wv)
theorem impl_NatEven_ret {a : Option Addr} {a0 a1 : Nat} (h : impl_NatEven a a0 a1 w R) : Ret P 317 [.slice a a0 a1] w R := Ret.of_fsem Tryz.func317 rfl (Eq.mp (show _ = fsem P Tryz.f317 (fun k => []) _ R w from by kernel_rfl) h)
def impl_roundModes_1 (a0 : Bool) (a1 : Int) (a2 : Bool) (w : World) (R : Value -> World -> Prop) : Prop :=
 R (.bool false) w
theorem impl_roundModes_1_ret {a0 : Bool} {a1 : Int} {a2 : Bool} (h : impl_roundModes_1 a0 a1 a2 w R) : Ret P 339 [.bool a0, .int .i64 a1, .bool a2] w R := Ret.of_fsem Tryz.func339 rfl (Eq.mp (show _ = fsem P Tryz.f339 (fun k => []) _ R w from by kernel_rfl) h)
def impl_roundModes_2 (a0 : Bool) (a1 : Int) (a2 : Bool) (w : World) (R : Value -> World -> Prop) : Prop :=
 R (.bool true) w
theorem impl_roundModes_2_ret {a0 : Bool} {a1 : Int} {a2 : Bool} (h : impl_roundModes_2 a0 a1 a2 w R) : Ret P 340 [.bool a0, .int .i64 a1, .bool a2] w R := Ret.of_fsem Tryz.func340 rfl (Eq.mp (show _ = fsem P Tryz.f340 (fun k => []) _ R w from by kernel_rfl) h)
def impl_roundModes_3 (neg : Bool) (u : Int) (u_1 : Bool) (w : World) (R : Value -> World -> Prop) : Prop :=
 R (.bool neg) w
theorem impl_roundModes_3_ret {a : Bool} {u : Int} {a0 : Bool} (h : impl_roundModes_3 a u a0 w R) : Ret P 341 [.bool a, .int .i64 u, .bool a0] w R := Ret.of_fsem Tryz.func341 rfl (Eq.mp (show _ = fsem P Tryz.f341 (fun k => []) _ R w from by kernel_rfl) h)
def impl_roundModes_4 (neg : Bool) (u : Int) (u_1 : Bool) (w : World) (R : Value -> World -> Prop) : Prop :=
 R (.bool (!neg)) w
theorem impl_roundModes_4_ret {a : Bool} {u : Int} {a0 : Bool} (h : impl_roundModes_4 a u a0 w R) : Ret P 342 [.bool a, .int .i64 u, .bool a0] w R := Ret.of_fsem Tryz.func342 rfl (Eq.mp (show _ = fsem P Tryz.f342 (fun k => []) _ R w from by kernel_rfl) h)
def impl_roundModes_5 (u : Bool) (half : Int) (u_1 : Bool) (w : World) (R : Value -> World -> Prop) : Prop :=
 R (.bool (decide ((0 : Int) < half))) w
theorem impl_roundModes_5_ret {u : Bool} {a : Int} {a0 : Bool} (h : impl_roundModes_5 u a a0 w R) : Ret P 343 [.bool u, .int .i64 a, .bool a0] w R := Ret.of_fsem Tryz.func343 rfl (Eq.mp (show _ = fsem P Tryz.f343 (fun k => []) _ R w from by kernel_rfl) h)
def impl_roundModes_6 (u : Bool) (half : Int) (u_1 : Bool) (w : World) (R : Value -> World -> Prop) : Prop :=
 R (.bool (decide ((0 : Int) <= half))) w
theorem impl_roundModes_6_ret {u : Bool} {a : Int} {a0 : Bool} (h : impl_roundModes_6 u a a0 w R) : Ret P 344 [.bool u, .int .i64 a, .bool a0] w R := Ret.of_fsem Tryz.func344 rfl (Eq.mp (show _ = fsem P Tryz.f344 (fun k => []) _ R w from by kernel_rfl) h)
def impl_roundModes_7 (u : Bool) (half : Int) (odd : Bool) (w : World) (R : Value -> World -> Prop) : Prop :=
 ((decide ((0 : Int) < half)) = true ->
 R (.bool true) w) /\
 ((decide ((0 : Int) < half)) = false ->
 ((decide ((half : Int) = 0)) = true ->
 R (.bool odd) w) /\
 ((decide ((half : Int) = 0)) = false ->
 R (.bool false) w))
theorem impl_roundModes_7_ret {u : Bool} {a : Int} {a0 : Bool} (h : impl_roundModes_7 u a a0 w R) : Ret P 345 [.bool u, .int .i64 a, .bool a0] w R := Ret.of_fsem Tryz.func345 rfl (Eq.mp (show _ = fsem P Tryz.f345 (fun k => []) _ R w from by kernel_rfl) h)
end Go.Proofs.YtbgokfhcgcoipaaGreatDoor
