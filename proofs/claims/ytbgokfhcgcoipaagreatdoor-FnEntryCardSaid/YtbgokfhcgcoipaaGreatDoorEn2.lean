/-
  Parts of the proof of fnEntry_holds: G8, G9, G10, G11, G12, G13, SxMem, SxData, SxOwn, DInts, DS, CBase.
  Conditions: none.
-/
import Derived.Laws.AppendOwn
import Derived.Laws.CopyRow
import Derived.Test.YtbgokfhcgcoipaaGreatDoorEn1
set_option linter.unusedVariables false
set_option linter.unusedSimpArgs false
namespace Go.RowKit
end Go.RowKit

namespace Go.Proofs.YtbgokfhcgcoipaaGreatDoor
variable {w : World} {R : Value -> World -> Prop}
open Go Go.Proofs.YtbgokfhcgcoipaaGreatDoor.Sx
set_option maxRecDepth 100000
def impl_Balanced (a0 : Option Addr) (a1 a2 : Nat) (w : World) (R : Value -> World -> Prop) : Prop :=
 Calls P 147 ⟨[.slice a0 a1 a2]⟩ w fun e wv =>
 ∃ t6, e = .returned (.bool t6) /\
 ((!t6) = true ->
 R (.bool false) wv) /\
 ((!t6) = false ->
 Calls P 151 ⟨[.slice a0 a1 a2]⟩ wv fun a3 a4 =>
 ∃ a5 a6 a7, a3 = .returned (.slice a5 a6 a7) /\
 ∃ (a8 : Int -> World -> Prop) (mu : Int -> World -> Nat), a8 0 a4 /\
 ∀ (a9 : Fr) (aa : World) (ab : Int), a8 ab aa ->
 ((decide ((ab : Int) < ((a6 : Nat) : Int))) = true ->
 (0 <= (ab : Int) /\ (ab : Int) < (a6 : Nat)) /\ ptrS a5 fun ad => ∃ ac ae af ag ah, Loads P 33 (ad.add (ab.toNat * 3)) (.agg #[.string ac, .bool ae, .slice af ag ah]) aa /\ ∀ r ai, New aa (.cells ⟨[.string ByteArray.empty, .bool false, .slice none 0 0]⟩ 33 (0, 0)) r ai ->
 ∃ wv_4, Stores P 33 ⟨r, 0, none⟩ (.agg #[.string ac, .bool ae, .slice af ag ah]) ai wv_4 /\
 ∃ aj ak al am an, Loads P 33 ⟨r, 0, none⟩ (.agg #[.string aj, .bool ak, .slice al am an]) wv_4 /\ Calls P 98 ⟨[.agg #[.string aj, .bool ak, .slice al am an]]⟩ wv_4 fun ao ap =>
 ∃ aq, ao = .returned (.bool aq) /\
 ((!aq) = true ->
 R (.bool false) ap) /\
 ((!aq) = false ->
 ∃ ar : Int, ar = IntKind.wrap .i64 (ab + 1) /\ a8 ar ap /\ mu ar ap < mu ab aa)) /\
 ((decide ((ab : Int) < ((a6 : Nat) : Int))) = false ->
 R (.bool true) aa))
theorem impl_Balanced_ret {a : Option Addr} {a0 a1 : Nat} (h : impl_Balanced a a0 a1 w R) : Ret P 67 [.slice a a0 a1] w R := Ret.of_fsem Tryz.func67 rfl (Eq.mp (show _ = fsem P Tryz.f67 (fun k => cond (Nat.beq k 5) [(11, .one (.int .i64))] ([])) _ R w from by kernel_rfl) h)
def impl_LegSums_j0 (a0 : World) (a1 : Option Addr -> Nat -> Nat -> Int -> World -> Prop) (mu : Option Addr -> Nat -> Nat -> Int -> World -> Nat) (a2 : Option Addr) (a3 a4 : Nat) (a5 : Int) (a6 : Option Addr) (a7 a8 : Nat) (W : World) (R : Value -> World -> Prop) : Prop :=
 ∃ a9 : Int, a9 = IntKind.wrap .i64 (a5 + 1) /\ a1 a6 a7 a8 a9 W /\ mu a6 a7 a8 a9 W < mu a2 a3 a4 a5 a0
def impl_LegSums (a0 : Option Addr) (a1 a2 : Nat) (w : World) (R : Value -> World -> Prop) : Prop :=
 Calls P 147 ⟨[.slice a0 a1 a2]⟩ w fun e wv =>
 ∃ t7, e = .returned (.bool t7) /\
 ((!t7) = true ->
 R (.slice none 0 0) wv) /\
 ((!t7) = false ->
 ∀ r a3, New wv (.cells ⟨[]⟩ 33 (0, 0)) r a3 ->
 Calls P 151 ⟨[.slice a0 a1 a2]⟩ a3 fun a4 a5 =>
 ∃ a6 a7 a8, a4 = .returned (.slice a6 a7 a8) /\
 ∃ (a9 : Option Addr -> Nat -> Nat -> Int -> World -> Prop) (mu : Option Addr -> Nat -> Nat -> Int -> World -> Nat), a9 (some ⟨r, 0, none⟩) 0 0 0 a5 /\
 ∀ (aa : Fr) (ab : World) (ac : Option Addr) (ae af : Nat) (ag : Int), a9 ac ae af ag ab ->
 ((decide ((ag : Int) < ((a7 : Nat) : Int))) = true ->
 (0 <= (ag : Int) /\ (ag : Int) < (a7 : Nat)) /\ ptrS a6 fun ad => ∃ ah ai aj ak al, Loads P 33 (ad.add (ag.toNat * 3)) (.agg #[.string ah, .bool ai, .slice aj ak al]) ab /\ ∀ am an, New ab (.cells ⟨[.string ByteArray.empty, .bool false, .slice none 0 0]⟩ 33 (0, 0)) am an ->
 ∃ wv_5, Stores P 33 ⟨am, 0, none⟩ (.agg #[.string ah, .bool ai, .slice aj ak al]) an wv_5 /\
 ∃ ao ap aq ar au, Loads P 33 ⟨am, 0, none⟩ (.agg #[.string ao, .bool ap, .slice aq ar au]) wv_5 /\ Calls P 102 ⟨[.agg #[.string ao, .bool ap, .slice aq ar au]]⟩ wv_5 fun av aw =>
 ∃ ax, av = .returned (.bool ax) /\
 ((!ax) = true ->
 R (.slice none 0 0) aw) /\
 ((!ax) = false ->
 ∃ ay az b0 b1 b2, Loads P 33 ⟨am, 0, none⟩ (.agg #[.string ay, .bool az, .slice b0 b1 b2]) aw /\ Calls P 98 ⟨[.agg #[.string ay, .bool az, .slice b0 b1 b2]]⟩ aw fun b3 b4 =>
 ∃ b5, b3 = .returned (.bool b5) /\
 ((!b5) = true ->
 ∃ b6 b7 b8 b9 ba, Loads P 33 ⟨am, 0, none⟩ (.agg #[.string b6, .bool b7, .slice b8 b9 ba]) b4 /\ ∀ bb bc, New b4 (.cells ⟨[.string b6, .bool b7, .slice b8 b9 ba]⟩ 33 (0, 0)) bb bc ->
 ∃ bd be bf bg, Appends P [114, 114] [.slice ac ae af, (.slice (some ⟨bb, 0, none⟩) 1 1)] (.slice bd be bf) bc bg /\
 impl_LegSums_j0 ab a9 mu ac ae af ag bd be bf bg R) /\
 ((!b5) = false ->
 impl_LegSums_j0 ab a9 mu ac ae af ag ac ae af b4 R))) /\
 ((decide ((ag : Int) < ((a7 : Nat) : Int))) = false ->
 R (.slice ac ae af) ab))
theorem impl_LegSums_ret {a : Option Addr} {a0 a1 : Nat} (h : impl_LegSums a a0 a1 w R) : Ret P 68 [.slice a a0 a1] w R := Ret.of_fsem Tryz.func68 rfl (Eq.mp (show _ = fsem P Tryz.f68 (fun k => cond (Nat.beq k 6) [(3, .one .slice), (13, .one (.int .i64))] ([])) _ R w from by kernel_rfl) h)
def impl_LegsText (a0 : Option Addr) (a1 a2 : Nat) (w : World) (R : Value -> World -> Prop) : Prop :=
 ∀ r wv, New w (.cells ⟨[]⟩ 9 (0, 0)) r wv ->
 ∃ (a3 : Option Addr -> Nat -> Nat -> Int -> World -> Prop) (mu : Option Addr -> Nat -> Nat -> Int -> World -> Nat), a3 (some ⟨r, 0, none⟩) 0 0 0 wv /\
 ∀ (a4 : Fr) (a5 : World) (a6 : Option Addr) (a7 a8 : Nat) (t9 : Int), a3 a6 a7 a8 t9 a5 ->
 ((decide ((t9 : Int) < ((a1 : Nat) : Int))) = true ->
 (0 <= (t9 : Int) /\ (t9 : Int) < (a1 : Nat)) /\ ptrS a0 fun ad => ∃ a9 aa ab ac ae af, Loads P 181 (ad.add (t9.toNat * 4)) (.agg #[.string a9, .string aa, .bool ab, .slice ac ae af]) a5 /\ ∀ ag ah, New a5 (.cells ⟨[.string ByteArray.empty, .string ByteArray.empty, .bool false, .slice none 0 0]⟩ 181 (0, 0)) ag ah ->
 ∃ wv_3, Stores P 181 ⟨ag, 0, none⟩ (.agg #[.string a9, .string aa, .bool ab, .slice ac ae af]) ah wv_3 /\
 ∃ ai, (∀ wv_4, Ext wv_3.drew wv_4 -> Loads P 9 ((⟨ag, 0, none⟩ : Addr).add 0) (.string ai) wv_4) /\ ai.size + (S [32]).size <= 9223372036854775807 /\ ∃ aj : ByteArray, aj = ai ++ (S [32]) /\ ∃ ak al am an ao, (∀ wv_5, Ext wv_3.drew wv_5 -> Loads P 33 ((⟨ag, 0, none⟩ : Addr).add 1) (.agg #[.string ak, .bool al, .slice am an ao]) wv_5) /\ Calls P 93 ⟨[.agg #[.string ak, .bool al, .slice am an ao]]⟩ wv_3.drew fun e ap =>
 ∃ aq, e = .returned (.string aq) /\
 Ext wv_3.drew ap /\ aj.size + aq.size <= 9223372036854775807 /\ ∃ ar : ByteArray, ar = aj ++ aq /\ ∀ au av, New ap (.cells ⟨[.string ar]⟩ 9 (0, 0)) au av ->
 ∃ aw ax ay az, Appends P [98, 98] [.slice a6 a7 a8, (.slice (some ⟨au, 0, none⟩) 1 1)] (.slice aw ax ay) av az /\
 ∃ b0 : Int, b0 = IntKind.wrap .i64 (t9 + 1) /\ a3 aw ax ay b0 az /\ mu aw ax ay b0 az < mu a6 a7 a8 t9 a5) /\
 ((decide ((t9 : Int) < ((a1 : Nat) : Int))) = false ->
 Calls P 92 ⟨[.slice a6 a7 a8, (.string (S [59, 32]))]⟩ a5 fun b1 b2 =>
 ∃ b3, b1 = .returned (.string b3) /\
 R (.string b3) b2)
theorem impl_LegsText_ret {a : Option Addr} {a0 a1 : Nat} (h : impl_LegsText a a0 a1 w R) : Ret P 69 [.slice a a0 a1] w R := Ret.of_fsem Tryz.func69 rfl (Eq.mp (show _ = fsem P Tryz.f69 (fun k => cond (Nat.beq k 4) [(3, .one .slice), (9, .one (.int .i64))] ([])) _ R w from by kernel_rfl) h)
def spec_l01New_j0 (a0 : Option Addr) (a1 : Nat) (wv : World) (a2 : Int -> Int -> World -> Prop) (mu : Int -> Int -> World -> Nat) (h i : Int) (W : World) (R : Value -> World -> Prop) : Prop :=
 ∃ a3 : Int, a3 = IntKind.wrap .i64 (h * 41) /\ (0 <= (i : Int) /\ (i : Int) < (a1 : Nat)) /\ ptrS a0 fun ad => ∃ a4, Loads P 5 (ad.add (i.toNat * 1)) (.int .u8 a4) W /\ ∃ a5 : Int, a5 = IntKind.wrap .i64 a4 /\ ∃ a6 : Int, a6 = IntKind.wrap .i64 (a3 + a5) /\ ∃ a7 : Int, a7 = IntKind.wrap .i64 (a6 + 7) /\ ∃ a8 : Int, a8 = IntKind.wrap .i64 (BitVec.ofInt (IntKind.bits .i64) a7 &&& BitVec.ofInt (IntKind.bits .i64) 1073741823).toNat /\ ∃ a9 : Int, a9 = IntKind.wrap .i64 (i + 1) /\ a2 a8 a9 W /\ mu a8 a9 W < mu h i wv
def spec_l01New (a0 : Option Addr) (a1 a2 : Nat) (w : World) (R : Value -> World -> Prop) : Prop :=
 ∃ t7 : Int, t7 = IntKind.wrap .i64 (1616 + ((a1 : Nat) : Int)) /\ ∃ (a3 : Int -> Int -> World -> Prop) (mu : Int -> Int -> World -> Nat), a3 t7 0 w /\
 ∀ (a4 : Fr) (wv : World) (h i : Int), a3 h i wv ->
 ((decide ((i : Int) < ((a1 : Nat) : Int))) = true ->
 ((decide ((i : Int) < 4000)) = true ->
 spec_l01New_j0 a0 a1 wv a3 mu h i wv R) /\
 ((decide ((i : Int) < 4000)) = false ->
 ∀ r a5, New wv (.cells ⟨[.slice a0 a1 a2, .int .i64 0, .int .i64 h]⟩ 126 (0, 0)) r a5 ->
 R (.pointer (some ⟨r, 0, none⟩)) a5)) /\
 ((decide ((i : Int) < ((a1 : Nat) : Int))) = false ->
 (false = true ->
 spec_l01New_j0 a0 a1 wv a3 mu h i wv R) /\
 (false = false ->
 ∀ a6 a7, New wv (.cells ⟨[.slice a0 a1 a2, .int .i64 0, .int .i64 h]⟩ 126 (0, 0)) a6 a7 ->
 R (.pointer (some ⟨a6, 0, none⟩)) a7))
theorem spec_l01New_ret {a : Option Addr} {a0 a1 : Nat} (h : spec_l01New a a0 a1 w R) : Ret P 81 [.slice a a0 a1] w R := Ret.of_fsem Tryz.func81 rfl (Eq.mp (show _ = fsem P Tryz.f81 (fun k => cond (Nat.beq k 4) [(3, .one (.int .i64)), (4, .one (.int .i64))] ([])) _ R w from by kernel_rfl) h)
def spec_IntOf (n : Int) (w : World) (R : Value -> World -> Prop) : Prop :=
 ∀ r wv, New w (.cells ⟨[.bool false, .slice none 0 0]⟩ 31 (0, 0)) r wv ->
 ((decide ((n : Int) = (-9223372036854775808))) = true ->
 ∀ a0 a1, New wv (.cells ⟨[.int .i64 854775808, .int .i64 223372036, .int .i64 9]⟩ 3 (0, 0)) a0 a1 ->
 Calls P 164 ⟨[.bool true, (.slice (some ⟨a0, 0, none⟩) 3 3)]⟩ a1 fun e a2 =>
 ∃ a3 a4 a5 a6, e = .returned (.agg #[.bool a3, .slice a4 a5 a6]) /\
 ∃ wv_3, Stores P 31 ⟨r, 0, none⟩ (.agg #[.bool a3, .slice a4 a5 a6]) a2 wv_3 /\
 ∃ r0 a7 a8 a9, Loads P 31 ⟨r, 0, none⟩ (.agg #[.bool r0, .slice a7 a8 a9]) wv_3 /\ R (.agg #[.bool r0, .slice a7 a8 a9]) wv_3) /\
 ((decide ((n : Int) = (-9223372036854775808))) = false ->
 ((decide ((n : Int) < 0)) = true ->
 ∃ aa : Int, aa = IntKind.wrap .i64 (0 - n) /\ Calls P 165 ⟨[.int .i64 aa]⟩ wv fun ab ac =>
 ∃ ae af ag, ab = .returned (.slice ae af ag) /\
 Calls P 164 ⟨[.bool true, .slice ae af ag]⟩ ac fun ah ai =>
 ∃ aj ak al am, ah = .returned (.agg #[.bool aj, .slice ak al am]) /\
 ∃ wv_6, Stores P 31 ⟨r, 0, none⟩ (.agg #[.bool aj, .slice ak al am]) ai wv_6 /\
 ∃ r0_1 an ao ap, Loads P 31 ⟨r, 0, none⟩ (.agg #[.bool r0_1, .slice an ao ap]) wv_6 /\ R (.agg #[.bool r0_1, .slice an ao ap]) wv_6) /\
 ((decide ((n : Int) < 0)) = false ->
 Calls P 165 ⟨[.int .i64 n]⟩ wv fun aq ar =>
 ∃ au av aw, aq = .returned (.slice au av aw) /\
 Calls P 164 ⟨[.bool false, .slice au av aw]⟩ ar fun ax ay =>
 ∃ az b0 b1 b2, ax = .returned (.agg #[.bool az, .slice b0 b1 b2]) /\
 ∃ wv_9, Stores P 31 ⟨r, 0, none⟩ (.agg #[.bool az, .slice b0 b1 b2]) ay wv_9 /\
 ∃ r0_2 b3 b4 b5, Loads P 31 ⟨r, 0, none⟩ (.agg #[.bool r0_2, .slice b3 b4 b5]) wv_9 /\ R (.agg #[.bool r0_2, .slice b3 b4 b5]) wv_9))
theorem spec_IntOf_ret {n : Int} (h : spec_IntOf n w R) : Ret P 82 [.int .i64 n] w R := Ret.of_fsem Tryz.func82 rfl (Eq.mp (show _ = fsem P Tryz.f82 (fun k => []) _ R w from by kernel_rfl) h)
def spec_l01Below (c : Option Addr) (n : Int) (w : World) (R : Value -> World -> Prop) : Prop :=
 ((decide ((n : Int) <= 0)) = true ->
 R (.int .i64 0) w) /\
 ((decide ((n : Int) <= 0)) = false ->
 ((decide ((n : Int) <= 256)) = true ->
 Calls P 166 ⟨[(.pointer c)]⟩ w fun e wv =>
 ∃ a0, e = .returned (.int .i64 a0) /\
 (n : Int) ≠ 0 /\ ∃ a1 : Int, a1 = Int.tmod a0 n /\ R (.int .i64 a1) wv) /\
 ((decide ((n : Int) <= 256)) = false ->
 Calls P 166 ⟨[(.pointer c)]⟩ w fun a2 a3 =>
 ∃ a4, a2 = .returned (.int .i64 a4) /\
 Calls P 166 ⟨[(.pointer c)]⟩ a3 fun a5 a6 =>
 ∃ a7, a5 = .returned (.int .i64 a7) /\
 Calls P 166 ⟨[(.pointer c)]⟩ a6 fun a8 a9 =>
 ∃ aa, a8 = .returned (.int .i64 aa) /\
 Calls P 166 ⟨[(.pointer c)]⟩ a9 fun ab ac =>
 ∃ ae, ab = .returned (.int .i64 ae) /\
 ∃ af : Int, af = IntKind.wrap .i64 (a4 * 16777216) /\ ∃ ag : Int, ag = IntKind.wrap .i64 (a7 * 65536) /\ ∃ ah : Int, ah = IntKind.wrap .i64 (af + ag) /\ ∃ ai : Int, ai = IntKind.wrap .i64 (aa * 256) /\ ∃ aj : Int, aj = IntKind.wrap .i64 (ah + ai) /\ ∃ ak : Int, ak = IntKind.wrap .i64 (aj + ae) /\ (n : Int) ≠ 0 /\ ∃ al : Int, al = Int.tmod ak n /\ R (.int .i64 al) ac))
theorem spec_l01Below_ret {c : Option Addr} {n : Int} (h : spec_l01Below c n w R) : Ret P 83 [.pointer c, .int .i64 n] w R := Ret.of_fsem Tryz.func83 rfl (Eq.mp (show _ = fsem P Tryz.f83 (fun k => []) _ R w from by kernel_rfl) h)
def impl_moneyOf (cur : ByteArray) (units0 : Bool) (a0 : Option Addr) (a1 a2 : Nat) (w : World) (R : Value -> World -> Prop) : Prop :=
 ∀ r wv, New w (.cells ⟨[.bool units0, .slice a0 a1 a2]⟩ 31 (0, 0)) r wv ->
 ∀ a3 a4, New wv (.cells ⟨[.string ByteArray.empty, .bool false, .slice none 0 0]⟩ 33 (0, 0)) a3 a4 ->
 ∃ a5 a6 a7 a8, Loads P 31 ⟨r, 0, none⟩ (.agg #[.bool a5, .slice a6 a7 a8]) a4 /\ ∀ a9 aa, New a4 (.cells ⟨[.string ByteArray.empty, .bool false, .slice none 0 0]⟩ 33 (0, 0)) a9 aa ->
 ∃ wv_3, Stores P 33 ⟨a9, 0, none⟩ (.agg #[.string cur, .bool a5, .slice a6 a7 a8]) aa wv_3 /\
 ∃ ab ac ae af ag, Loads P 33 ⟨a9, 0, none⟩ (.agg #[.string ab, .bool ac, .slice ae af ag]) wv_3 /\ Calls P 102 ⟨[.agg #[.string ab, .bool ac, .slice ae af ag]]⟩ wv_3 fun e ah =>
 ∃ ai, e = .returned (.bool ai) /\
 (ai = true ->
 ∃ aj ak al am an, Loads P 33 ⟨a9, 0, none⟩ (.agg #[.string aj, .bool ak, .slice al am an]) ah /\ ∃ wv_5, Stores P 33 ⟨a3, 0, none⟩ (.agg #[.string aj, .bool ak, .slice al am an]) ah wv_5 /\
 ∃ r0 r1 ao ap aq, Loads P 33 ⟨a3, 0, none⟩ (.agg #[.string r0, .bool r1, .slice ao ap aq]) wv_5 /\ R (.tuple #[.agg #[.string r0, .bool r1, .slice ao ap aq], .bool true]) wv_5) /\
 (ai = false ->
 ∃ wv_6, Stores P 33 ⟨a3, 0, none⟩ (.agg #[.string ByteArray.empty, .bool false, .slice none 0 0]) ah wv_6 /\
 ∃ r0_1 r1_1 ar au av, Loads P 33 ⟨a3, 0, none⟩ (.agg #[.string r0_1, .bool r1_1, .slice ar au av]) wv_6 /\ R (.tuple #[.agg #[.string r0_1, .bool r1_1, .slice ar au av], .bool false]) wv_6)
theorem impl_moneyOf_ret {a : ByteArray} {a0 : Bool} {a1 : Option Addr} {a2 a3 : Nat} (h : impl_moneyOf a a0 a1 a2 a3 w R) : Ret P 85 [.string a, .agg #[.bool a0, .slice a1 a2 a3]] w R := Ret.of_fsem Tryz.func85 rfl (Eq.mp (show _ = fsem P Tryz.f85 (fun k => []) _ R w from by kernel_rfl) h)
def impl_alike (m0 : ByteArray) (m1 : Bool) (a0 : Option Addr) (a1 a2 : Nat) (n0 : ByteArray) (n1 : Bool) (a3 : Option Addr) (a4 a5 : Nat) (w : World) (R : Value -> World -> Prop) : Prop :=
 ∀ r wv, New w (.cells ⟨[.string m0, .bool m1, .slice a0 a1 a2]⟩ 33 (0, 0)) r wv ->
 ∀ a6 a7, New wv (.cells ⟨[.string n0, .bool n1, .slice a3 a4 a5]⟩ 33 (0, 0)) a6 a7 ->
 ∃ a8 a9 aa ab ac, Loads P 33 ⟨r, 0, none⟩ (.agg #[.string a8, .bool a9, .slice aa ab ac]) a7 /\ Calls P 102 ⟨[.agg #[.string a8, .bool a9, .slice aa ab ac]]⟩ a7 fun e ae =>
 ∃ t6, e = .returned (.bool t6) /\
 (t6 = true ->
 ∃ af ag ah ai aj, Loads P 33 ⟨a6, 0, none⟩ (.agg #[.string af, .bool ag, .slice ah ai aj]) ae /\ Calls P 102 ⟨[.agg #[.string af, .bool ag, .slice ah ai aj]]⟩ ae fun ak al =>
 ∃ t9, ak = .returned (.bool t9) /\
 (t9 = true ->
 ∃ am, Loads P 9 ((⟨r, 0, none⟩ : Addr).add 0) (.string am) al /\ ∃ an, Loads P 9 ((⟨a6, 0, none⟩ : Addr).add 0) (.string an) al /\ R (.bool (decide (am = an))) al) /\
 (t9 = false ->
 R (.bool false) al)) /\
 (t6 = false ->
 (false = true ->
 ∃ ao, Loads P 9 ((⟨r, 0, none⟩ : Addr).add 0) (.string ao) ae /\ ∃ ap, Loads P 9 ((⟨a6, 0, none⟩ : Addr).add 0) (.string ap) ae /\ R (.bool (decide (ao = ap))) ae) /\
 (false = false ->
 R (.bool false) ae))
theorem impl_alike_ret {m0 : ByteArray} {m1 : Bool} {a : Option Addr} {a0 a1 : Nat} {n0 : ByteArray} {n1 : Bool} {a2 : Option Addr} {a3 a4 : Nat} (h : impl_alike m0 m1 a a0 a1 n0 n1 a2 a3 a4 w R) : Ret P 86 [.agg #[.string m0, .bool m1, .slice a a0 a1], .agg #[.string n0, .bool n1, .slice a2 a3 a4]] w R := Ret.of_fsem Tryz.func86 rfl (Eq.mp (show _ = fsem P Tryz.f86 (fun k => []) _ R w from by kernel_rfl) h)
def impl_moneyCopy (m0 : ByteArray) (m1 : Bool) (a0 : Option Addr) (a1 a2 : Nat) (w : World) (R : Value -> World -> Prop) : Prop :=
 ∀ r wv, New w (.cells ⟨[.string m0, .bool m1, .slice a0 a1 a2]⟩ 33 (0, 0)) r wv ->
 ∀ a3 a4, New wv (.cells ⟨[.string ByteArray.empty, .bool false, .slice none 0 0]⟩ 33 (0, 0)) a3 a4 ->
 ∃ a5 a6 a7, Loads P 29 (((⟨r, 0, none⟩ : Addr).add 1).add 1) (.slice a5 a6 a7) a4 /\ (0 <= (((a6 : Nat) : Int) : Int) /\ (((a6 : Nat) : Int) : Int) <= ((a6 : Nat) : Int) /\ ((8 : Nat) : Int) * ((a6 : Nat) : Int) <= 281474976710656) /\
 ∀ a8 a9, New a4 (.cells ⟨zeroRow (.int .i64 0) (a6 * 1)⟩ 3 (0, 0)) a8 a9 ->
 ∃ aa ab ac, Loads P 29 (((⟨r, 0, none⟩ : Addr).add 1).add 1) (.slice aa ab ac) a9 /\ ∃ ae af, Copies P [29, 29] [(.slice (some ⟨a8, 0, none⟩) a6 a6), .slice aa ab ac] (.int .i64 ae) a9 af /\
 ∃ ag, (∀ wv_4, Ext af.drew wv_4 -> Loads P 9 ((⟨r, 0, none⟩ : Addr).add 0) (.string ag) wv_4) /\ ∃ ah, (∀ wv_5, Ext af.drew wv_5 -> Loads P 4 (((⟨r, 0, none⟩ : Addr).add 1).add 0) (.bool ah) wv_5) /\ (0 <= (((a6 : Nat) : Int) : Int) /\ (((a6 : Nat) : Int) : Int) <= (a6 : Nat)) /\ (0 <= (((a6 : Nat) : Int) : Int) /\ (((a6 : Nat) : Int) : Int) <= (a6 : Nat)) /\ ∃ wv_6, Stores P 33 ⟨a3, 0, none⟩ (.agg #[.string ag, .bool ah, (.slice (sub (some ⟨a8, 0, none⟩) 0 a6 1) (a6 - 0) (a6 - 0))]) af.drew wv_6 /\
 ∃ r0 r1 ai aj ak, Loads P 33 ⟨a3, 0, none⟩ (.agg #[.string r0, .bool r1, .slice ai aj ak]) wv_6 /\ R (.agg #[.string r0, .bool r1, .slice ai aj ak]) wv_6
theorem impl_moneyCopy_ret {m0 : ByteArray} {m1 : Bool} {a : Option Addr} {a0 a1 : Nat} (h : impl_moneyCopy m0 m1 a a0 a1 w R) : Ret P 88 [.agg #[.string m0, .bool m1, .slice a a0 a1]] w R := Ret.of_fsem Tryz.func88 rfl (Eq.mp (show _ = fsem P Tryz.f88 (fun k => []) _ R w from by kernel_rfl) h)
def impl_intCmp (x0 : Bool) (a0 : Option Addr) (a1 a2 : Nat) (y0 : Bool) (a3 : Option Addr) (a4 a5 : Nat) (w : World) (R : Value -> World -> Prop) : Prop :=
 ∀ r wv, New w (.cells ⟨[.bool x0, .slice a0 a1 a2]⟩ 31 (0, 0)) r wv ->
 ∀ a6 a7, New wv (.cells ⟨[.bool y0, .slice a3 a4 a5]⟩ 31 (0, 0)) a6 a7 ->
 ∃ a8 a9 aa ab, (∀ wv_2, Ext a7.drew wv_2 -> Loads P 31 ⟨r, 0, none⟩ (.agg #[.bool a8, .slice a9 aa ab]) wv_2) /\ ∃ ac ae af ag, (∀ wv_3, Ext a7.drew wv_3 -> Loads P 31 ⟨a6, 0, none⟩ (.agg #[.bool ac, .slice ae af ag]) wv_3) /\ Calls P 148 ⟨[.agg #[.bool ac, .slice ae af ag]]⟩ a7.drew fun e ah =>
 ∃ ai aj ak al, e = .returned (.agg #[.bool ai, .slice aj ak al]) /\
 Ext a7.drew ah /\ Calls P 94 ⟨[.agg #[.bool a8, .slice a9 aa ab], .agg #[.bool ai, .slice aj ak al]]⟩ ah fun am an =>
 ∃ ao ap aq ar, am = .returned (.agg #[.bool ao, .slice ap aq ar]) /\
 Calls P 97 ⟨[.agg #[.bool ao, .slice ap aq ar]]⟩ an fun au av =>
 ∃ t9, au = .returned (.int .i64 t9) /\
 R (.int .i64 t9) av
theorem impl_intCmp_ret {x0 : Bool} {a : Option Addr} {a0 a1 : Nat} {y0 : Bool} {a2 : Option Addr} {a3 a4 : Nat} (h : impl_intCmp x0 a a0 a1 y0 a2 a3 a4 w R) : Ret P 90 [.agg #[.bool x0, .slice a a0 a1], .agg #[.bool y0, .slice a2 a3 a4]] w R := Ret.of_fsem Tryz.func90 rfl (Eq.mp (show _ = fsem P Tryz.f90 (fun k => []) _ R w from by kernel_rfl) h)
def impl_Join (a0 : Option Addr) (a1 a2 : Nat) (byv : ByteArray) (w : World) (R : Value -> World -> Prop) : Prop :=
 Calls P 168 ⟨[.slice a0 a1 a2, .string byv]⟩ w fun e wv =>
 ∃ t7, e = .returned (.string t7) /\
 R (.string t7) wv
theorem impl_Join_ret {a : Option Addr} {a0 a1 : Nat} {a2 : ByteArray} (h : impl_Join a a0 a1 a2 w R) : Ret P 92 [.slice a a0 a1, .string a2] w R := Ret.of_fsem Tryz.func92 rfl (Eq.mp (show _ = fsem P Tryz.f92 (fun k => []) _ R w from by kernel_rfl) h)
def impl_MoneyText (m0 : ByteArray) (m1 : Bool) (a0 : Option Addr) (a1 a2 : Nat) (w : World) (R : Value -> World -> Prop) : Prop :=
 ∀ r wv, New w (.cells ⟨[.string m0, .bool m1, .slice a0 a1 a2]⟩ 33 (0, 0)) r wv ->
 ∃ a3 a4 a5 a6 a7, Loads P 33 ⟨r, 0, none⟩ (.agg #[.string a3, .bool a4, .slice a5 a6 a7]) wv /\ Calls P 102 ⟨[.agg #[.string a3, .bool a4, .slice a5 a6 a7]]⟩ wv fun e a8 =>
 ∃ t4, e = .returned (.bool t4) /\
 ((!t4) = true ->
 R (.string (S [])) a8) /\
 ((!t4) = false ->
 ∃ t7, (∀ wv_2, Ext a8.drew wv_2 -> Loads P 9 ((⟨r, 0, none⟩ : Addr).add 0) (.string t7) wv_2) /\ t7.size + (S [32]).size <= 9223372036854775807 /\ ∃ t8 : ByteArray, t8 = t7 ++ (S [32]) /\ ∃ a9 aa ab ac, (∀ wv_3, Ext a8.drew wv_3 -> Loads P 31 ((⟨r, 0, none⟩ : Addr).add 1) (.agg #[.bool a9, .slice aa ab ac]) wv_3) /\ ∃ ae, (∀ wv_4, Ext a8.drew wv_4 -> Loads P 9 ((⟨r, 0, none⟩ : Addr).add 0) (.string ae) wv_4) /\ Calls P 169 ⟨[.string ae]⟩ a8.drew fun af ag =>
 ∃ ah, af = .returned (.int .i64 ah) /\
 Ext a8.drew ag /\ Calls P 119 ⟨[.agg #[.bool a9, .slice aa ab ac, .int .i64 ah]]⟩ ag fun ai aj =>
 ∃ ak, ai = .returned (.string ak) /\
 Ext ag aj /\ t8.size + ak.size <= 9223372036854775807 /\ ∃ al : ByteArray, al = t8 ++ ak /\ R (.string al) aj)
theorem impl_MoneyText_ret {m0 : ByteArray} {m1 : Bool} {a : Option Addr} {a0 a1 : Nat} (h : impl_MoneyText m0 m1 a a0 a1 w R) : Ret P 93 [.agg #[.string m0, .bool m1, .slice a a0 a1]] w R := Ret.of_fsem Tryz.func93 rfl (Eq.mp (show _ = fsem P Tryz.f93 (fun k => []) _ R w from by kernel_rfl) h)
def impl_intAdd_j0 (r a0 a1 : Nat) (W : World) (R : Value -> World -> Prop) : Prop :=
 ∃ a2, (∀ wv_12, Ext W.drew wv_12 -> Loads P 4 ((⟨r, 0, none⟩ : Addr).add 0) (.bool a2) wv_12) /\ ∃ a3 a4 a5, (∀ wv_13, Ext W.drew wv_13 -> Loads P 29 ((⟨r, 0, none⟩ : Addr).add 1) (.slice a3 a4 a5) wv_13) /\ ∃ a6 a7 a8, (∀ wv_14, Ext W.drew wv_14 -> Loads P 29 ((⟨a0, 0, none⟩ : Addr).add 1) (.slice a6 a7 a8) wv_14) /\ Calls P 129 ⟨[.slice a3 a4 a5, .slice a6 a7 a8]⟩ W.drew fun a9 aa =>
 ∃ ab ac ae, a9 = .returned (.slice ab ac ae) /\
 Ext W.drew aa /\ Calls P 170 ⟨[.bool a2, .slice ab ac ae]⟩ aa fun af ag =>
 ∃ ah ai aj ak, af = .returned (.agg #[.bool ah, .slice ai aj ak]) /\
 ∃ wv_17, Stores P 31 ⟨a1, 0, none⟩ (.agg #[.bool ah, .slice ai aj ak]) ag wv_17 /\
 ∃ r0_1 al am an, Loads P 31 ⟨a1, 0, none⟩ (.agg #[.bool r0_1, .slice al am an]) wv_17 /\ R (.agg #[.bool r0_1, .slice al am an]) wv_17
def impl_intAdd (x0 : Bool) (a0 : Option Addr) (a1 a2 : Nat) (y0 : Bool) (a3 : Option Addr) (a4 a5 : Nat) (w : World) (R : Value -> World -> Prop) : Prop :=
 ∀ r wv, New w (.cells ⟨[.bool x0, .slice a0 a1 a2]⟩ 31 (0, 0)) r wv ->
 ∀ a6 a7, New wv (.cells ⟨[.bool y0, .slice a3 a4 a5]⟩ 31 (0, 0)) a6 a7 ->
 ∀ a8 a9, New a7 (.cells ⟨[.bool false, .slice none 0 0]⟩ 31 (0, 0)) a8 a9 ->
 ∃ t6, Loads P 4 ((⟨r, 0, none⟩ : Addr).add 0) (.bool t6) a9 /\ ∃ t8, Loads P 4 ((⟨a6, 0, none⟩ : Addr).add 0) (.bool t8) a9 /\ ((t6 == t8) = true ->
 ∃ aa, (∀ wv_3, Ext a9.drew wv_3 -> Loads P 4 ((⟨r, 0, none⟩ : Addr).add 0) (.bool aa) wv_3) /\ ∃ ab ac ae, (∀ wv_4, Ext a9.drew wv_4 -> Loads P 29 ((⟨r, 0, none⟩ : Addr).add 1) (.slice ab ac ae) wv_4) /\ ∃ af ag ah, (∀ wv_5, Ext a9.drew wv_5 -> Loads P 29 ((⟨a6, 0, none⟩ : Addr).add 1) (.slice af ag ah) wv_5) /\ Calls P 171 ⟨[.slice ab ac ae, .slice af ag ah]⟩ a9.drew fun e ai =>
 ∃ aj ak al, e = .returned (.slice aj ak al) /\
 Ext a9.drew ai /\ Calls P 170 ⟨[.bool aa, .slice aj ak al]⟩ ai fun am an =>
 ∃ ao ap aq ar, am = .returned (.agg #[.bool ao, .slice ap aq ar]) /\
 ∃ wv_8, Stores P 31 ⟨a8, 0, none⟩ (.agg #[.bool ao, .slice ap aq ar]) an wv_8 /\
 ∃ r0 au av aw, Loads P 31 ⟨a8, 0, none⟩ (.agg #[.bool r0, .slice au av aw]) wv_8 /\ R (.agg #[.bool r0, .slice au av aw]) wv_8) /\
 ((t6 == t8) = false ->
 ∃ ax ay az, Loads P 29 ((⟨r, 0, none⟩ : Addr).add 1) (.slice ax ay az) a9 /\ ∃ b0 b1 b2, Loads P 29 ((⟨a6, 0, none⟩ : Addr).add 1) (.slice b0 b1 b2) a9 /\ Calls P 127 ⟨[.slice ax ay az, .slice b0 b1 b2]⟩ a9 fun b3 b4 =>
 ∃ b5, b3 = .returned (.int .i64 b5) /\
 ((decide ((b5 : Int) < 0)) = true ->
 ∃ b6 b7 b8 b9, Loads P 31 ⟨a6, 0, none⟩ (.agg #[.bool b6, .slice b7 b8 b9]) b4 /\ ∃ ba bb bc bd, Loads P 31 ⟨r, 0, none⟩ (.agg #[.bool ba, .slice bb bc bd]) b4 /\ ∃ wv_10, Stores P 31 ⟨r, 0, none⟩ (.agg #[.bool b6, .slice b7 b8 b9]) b4 wv_10 /\
 ∃ wv_11, Stores P 31 ⟨a6, 0, none⟩ (.agg #[.bool ba, .slice bb bc bd]) wv_10 wv_11 /\
 impl_intAdd_j0 r a6 a8 wv_11 R) /\
 ((decide ((b5 : Int) < 0)) = false ->
 impl_intAdd_j0 r a6 a8 b4 R))
theorem impl_intAdd_ret {x0 : Bool} {a : Option Addr} {a0 a1 : Nat} {y0 : Bool} {a2 : Option Addr} {a3 a4 : Nat} (h : impl_intAdd x0 a a0 a1 y0 a2 a3 a4 w R) : Ret P 94 [.agg #[.bool x0, .slice a a0 a1], .agg #[.bool y0, .slice a2 a3 a4]] w R := Ret.of_fsem Tryz.func94 rfl (Eq.mp (show _ = fsem P Tryz.f94 (fun k => []) _ R w from by kernel_rfl) h)
def impl_intSame (x0 : Bool) (a0 : Option Addr) (a1 a2 : Nat) (y0 : Bool) (a3 : Option Addr) (a4 a5 : Nat) (w : World) (R : Value -> World -> Prop) : Prop :=
 ∀ r wv, New w (.cells ⟨[.bool x0, .slice a0 a1 a2]⟩ 31 (0, 0)) r wv ->
 ∀ a6 a7, New wv (.cells ⟨[.bool y0, .slice a3 a4 a5]⟩ 31 (0, 0)) a6 a7 ->
 ∃ t6, Loads P 4 ((⟨r, 0, none⟩ : Addr).add 0) (.bool t6) a7 /\ ∃ t8, Loads P 4 ((⟨a6, 0, none⟩ : Addr).add 0) (.bool t8) a7 /\ ((t6 == t8) = true ->
 ∃ a8 a9 aa, Loads P 29 ((⟨r, 0, none⟩ : Addr).add 1) (.slice a8 a9 aa) a7 /\ ∃ ab ac ae, Loads P 29 ((⟨a6, 0, none⟩ : Addr).add 1) (.slice ab ac ae) a7 /\ Calls P 172 ⟨[.slice a8 a9 aa, .slice ab ac ae]⟩ a7 fun e af =>
 ∃ ag, e = .returned (.bool ag) /\
 R (.bool ag) af) /\
 ((t6 == t8) = false ->
 R (.bool false) a7)
theorem impl_intSame_ret {x0 : Bool} {a : Option Addr} {a0 a1 : Nat} {y0 : Bool} {a2 : Option Addr} {a3 a4 : Nat} (h : impl_intSame x0 a a0 a1 y0 a2 a3 a4 w R) : Ret P 95 [.agg #[.bool x0, .slice a a0 a1], .agg #[.bool y0, .slice a2 a3 a4]] w R := Ret.of_fsem Tryz.func95 rfl (Eq.mp (show _ = fsem P Tryz.f95 (fun k => []) _ R w from by kernel_rfl) h)
def impl_IntOk (x0 : Bool) (a0 : Option Addr) (a1 a2 : Nat) (w : World) (R : Value -> World -> Prop) : Prop :=
 ∀ r wv, New w (.cells ⟨[.bool x0, .slice a0 a1 a2]⟩ 31 (0, 0)) r wv ->
 ∃ a3 a4 a5, Loads P 29 ((⟨r, 0, none⟩ : Addr).add 1) (.slice a3 a4 a5) wv /\ Calls P 173 ⟨[.slice a3 a4 a5]⟩ wv fun e a6 =>
 ∃ t5, e = .returned (.bool t5) /\
 (t5 = true ->
 ∃ t8, Loads P 4 ((⟨r, 0, none⟩ : Addr).add 0) (.bool t8) a6 /\ ((!t8) = true ->
 R (.bool true) a6) /\
 ((!t8) = false ->
 ∃ a7 a8 a9, Loads P 29 ((⟨r, 0, none⟩ : Addr).add 1) (.slice a7 a8 a9) a6 /\ R (.bool (decide ((0 : Int) < ((a8 : Nat) : Int)))) a6)) /\
 (t5 = false ->
 R (.bool false) a6)
theorem impl_IntOk_ret {x0 : Bool} {a : Option Addr} {a0 a1 : Nat} (h : impl_IntOk x0 a a0 a1 w R) : Ret P 96 [.agg #[.bool x0, .slice a a0 a1]] w R := Ret.of_fsem Tryz.func96 rfl (Eq.mp (show _ = fsem P Tryz.f96 (fun k => []) _ R w from by kernel_rfl) h)
def impl_intSign (x0 : Bool) (a0 : Option Addr) (a1 a2 : Nat) (w : World) (R : Value -> World -> Prop) : Prop :=
 ∀ r wv, New w (.cells ⟨[.bool x0, .slice a0 a1 a2]⟩ 31 (0, 0)) r wv ->
 ∃ a3 a4 a5, Loads P 29 ((⟨r, 0, none⟩ : Addr).add 1) (.slice a3 a4 a5) wv /\ ((decide ((((a4 : Nat) : Int) : Int) = 0)) = true ->
 R (.int .i64 0) wv) /\
 ((decide ((((a4 : Nat) : Int) : Int) = 0)) = false ->
 ∃ a6, Loads P 4 ((⟨r, 0, none⟩ : Addr).add 0) (.bool a6) wv /\ (a6 = true ->
 R (.int .i64 (-1)) wv) /\
 (a6 = false ->
 R (.int .i64 1) wv))
theorem impl_intSign_ret {x0 : Bool} {a : Option Addr} {a0 a1 : Nat} (h : impl_intSign x0 a a0 a1 w R) : Ret P 97 [.agg #[.bool x0, .slice a a0 a1]] w R := Ret.of_fsem Tryz.func97 rfl (Eq.mp (show _ = fsem P Tryz.f97 (fun k => []) _ R w from by kernel_rfl) h)
def impl_isZero (m0 : ByteArray) (m1 : Bool) (a0 : Option Addr) (a1 a2 : Nat) (w : World) (R : Value -> World -> Prop) : Prop :=
 ∀ r wv, New w (.cells ⟨[.string m0, .bool m1, .slice a0 a1 a2]⟩ 33 (0, 0)) r wv ->
 ∃ a3 a4 a5 a6, Loads P 31 ((⟨r, 0, none⟩ : Addr).add 1) (.agg #[.bool a3, .slice a4 a5 a6]) wv /\ Calls P 96 ⟨[.agg #[.bool a3, .slice a4 a5 a6]]⟩ wv fun e a7 =>
 ∃ t5, e = .returned (.bool t5) /\
 (t5 = true ->
 ∃ a8 a9 aa, Loads P 29 (((⟨r, 0, none⟩ : Addr).add 1).add 1) (.slice a8 a9 aa) a7 /\ R (.bool (decide ((((a9 : Nat) : Int) : Int) = 0))) a7) /\
 (t5 = false ->
 R (.bool false) a7)
theorem impl_isZero_ret {m0 : ByteArray} {m1 : Bool} {a : Option Addr} {a0 a1 : Nat} (h : impl_isZero m0 m1 a a0 a1 w R) : Ret P 98 [.agg #[.string m0, .bool m1, .slice a a0 a1]] w R := Ret.of_fsem Tryz.func98 rfl (Eq.mp (show _ = fsem P Tryz.f98 (fun k => []) _ R w from by kernel_rfl) h)
def spec_l01Str (c a0 : Option Addr) (a1 a2 : Nat) (w : World) (R : Value -> World -> Prop) : Prop :=
 Calls P 83 ⟨[(.pointer c), (.int .i64 ((a1 : Nat) : Int))]⟩ w fun e wv =>
 ∃ t9, e = .returned (.int .i64 t9) /\
 (0 <= (t9 : Int) /\ (t9 : Int) < (a1 : Nat)) /\ ptrS a0 fun ad => ∃ a3, Loads P 9 (ad.add (t9.toNat * 1)) (.string a3) wv /\ R (.string a3) wv
theorem spec_l01Str_ret {c a : Option Addr} {a0 a1 : Nat} (h : spec_l01Str c a a0 a1 w R) : Ret P 99 [.pointer c, .slice a a0 a1] w R := Ret.of_fsem Tryz.func99 rfl (Eq.mp (show _ = fsem P Tryz.f99 (fun k => []) _ R w from by kernel_rfl) h)
def impl_MoneyOk (m0 : ByteArray) (m1 : Bool) (a0 : Option Addr) (a1 a2 : Nat) (w : World) (R : Value -> World -> Prop) : Prop :=
 ∀ r wv, New w (.cells ⟨[.string m0, .bool m1, .slice a0 a1 a2]⟩ 33 (0, 0)) r wv ->
 ∃ t4, Loads P 9 ((⟨r, 0, none⟩ : Addr).add 0) (.string t4) wv /\ Calls P 177 ⟨[.string t4]⟩ wv fun e a3 =>
 ∃ t5, e = .returned (.bool t5) /\
 (t5 = true ->
 ∃ a4 a5 a6 a7, Loads P 31 ((⟨r, 0, none⟩ : Addr).add 1) (.agg #[.bool a4, .slice a5 a6 a7]) a3 /\ Calls P 96 ⟨[.agg #[.bool a4, .slice a5 a6 a7]]⟩ a3 fun a8 a9 =>
 ∃ t9, a8 = .returned (.bool t9) /\
 (t9 = true ->
 ∃ aa ab ac, Loads P 29 (((⟨r, 0, none⟩ : Addr).add 1).add 1) (.slice aa ab ac) a9 /\ R (.bool (decide ((((ab : Nat) : Int) : Int) <= 4))) a9) /\
 (t9 = false ->
 R (.bool false) a9)) /\
 (t5 = false ->
 (false = true ->
 ∃ ae af ag, Loads P 29 (((⟨r, 0, none⟩ : Addr).add 1).add 1) (.slice ae af ag) a3 /\ R (.bool (decide ((((af : Nat) : Int) : Int) <= 4))) a3) /\
 (false = false ->
 R (.bool false) a3))
theorem impl_MoneyOk_ret {m0 : ByteArray} {m1 : Bool} {a : Option Addr} {a0 a1 : Nat} (h : impl_MoneyOk m0 m1 a a0 a1 w R) : Ret P 102 [.agg #[.string m0, .bool m1, .slice a a0 a1]] w R := Ret.of_fsem Tryz.func102 rfl (Eq.mp (show _ = fsem P Tryz.f102 (fun k => []) _ R w from by kernel_rfl) h)
end Go.Proofs.YtbgokfhcgcoipaaGreatDoor
namespace Go.Proofs.YtbgokfhcgcoipaaGreatDoor
variable {w : World} {R : Value -> World -> Prop}
open Go Go.Proofs.YtbgokfhcgcoipaaGreatDoor.Sx
set_option maxRecDepth 100000
def impl_DecOk (d0 : Bool) (a0 : Option Addr) (a1 a2 : Nat) (d2 : Int) (w : World) (R : Value -> World -> Prop) : Prop :=
 ∀ r wv, New w (.cells ⟨[.bool d0, .slice a0 a1 a2, .int .i64 d2]⟩ 36 (0, 0)) r wv ->
 ∃ a3 a4 a5 a6, Loads P 31 ((⟨r, 0, none⟩ : Addr).add 0) (.agg #[.bool a3, .slice a4 a5 a6]) wv /\ Calls P 96 ⟨[.agg #[.bool a3, .slice a4 a5 a6]]⟩ wv fun e a7 =>
 ∃ t5, e = .returned (.bool t5) /\
 (t5 = true ->
 ∃ a8 a9 aa, Loads P 29 (((⟨r, 0, none⟩ : Addr).add 0).add 1) (.slice a8 a9 aa) a7 /\ ((decide ((((a9 : Nat) : Int) : Int) <= 6)) = true ->
 ∃ ab, Loads P 3 ((⟨r, 0, none⟩ : Addr).add 2) (.int .i64 ab) a7 /\ Calls P 182 ⟨[.int .i64 ab]⟩ a7 fun ac ae =>
 ∃ af, ac = .returned (.bool af) /\
 R (.bool af) ae) /\
 ((decide ((((a9 : Nat) : Int) : Int) <= 6)) = false ->
 R (.bool false) a7)) /\
 (t5 = false ->
 (false = true ->
 ∃ ag, Loads P 3 ((⟨r, 0, none⟩ : Addr).add 2) (.int .i64 ag) a7 /\ Calls P 182 ⟨[.int .i64 ag]⟩ a7 fun ah ai =>
 ∃ aj, ah = .returned (.bool aj) /\
 R (.bool aj) ai) /\
 (false = false ->
 R (.bool false) a7))
theorem impl_DecOk_ret {d0 : Bool} {a : Option Addr} {a0 a1 : Nat} {d2 : Int} (h : impl_DecOk d0 a a0 a1 d2 w R) : Ret P 112 [.agg #[.bool d0, .slice a a0 a1, .int .i64 d2]] w R := Ret.of_fsem Tryz.func112 rfl (Eq.mp (show _ = fsem P Tryz.f112 (fun k => []) _ R w from by kernel_rfl) h)
def impl_DecText_j1 (text_1 : ByteArray) (a0 : World) (R : Value -> World -> Prop) : Prop :=
 R (.string text_1) a0
def impl_DecText_j0 (r : Nat) (text : ByteArray) (W : World) (R : Value -> World -> Prop) : Prop :=
 ∃ a0, Loads P 4 (((⟨r, 0, none⟩ : Addr).add 0).add 0) (.bool a0) W /\ (a0 = true ->
 (S [45]).size + text.size <= 9223372036854775807 /\ ∃ a1 : ByteArray, a1 = (S [45]) ++ text /\ impl_DecText_j1 a1 W R) /\
 (a0 = false ->
 impl_DecText_j1 text W R)
def impl_DecText (d0 : Bool) (a0 : Option Addr) (a1 a2 : Nat) (d2 : Int) (w : World) (R : Value -> World -> Prop) : Prop :=
 ∀ r wv, New w (.cells ⟨[.bool d0, .slice a0 a1 a2, .int .i64 d2]⟩ 36 (0, 0)) r wv ->
 ∃ a3 a4 a5 a6 a7, Loads P 36 ⟨r, 0, none⟩ (.agg #[.bool a3, .slice a4 a5 a6, .int .i64 a7]) wv /\ Calls P 112 ⟨[.agg #[.bool a3, .slice a4 a5 a6, .int .i64 a7]]⟩ wv fun e a8 =>
 ∃ t6, e = .returned (.bool t6) /\
 ((!t6) = true ->
 R (.string (S [])) a8) /\
 ((!t6) = false ->
 ∃ a9 aa ab, (∀ wv_2, Ext a8.drew wv_2 -> Loads P 29 (((⟨r, 0, none⟩ : Addr).add 0).add 1) (.slice a9 aa ab) wv_2) /\ Calls P 188 ⟨[.slice a9 aa ab]⟩ a8.drew fun ac ae =>
 ∃ af, ac = .returned (.string af) /\
 Ext a8.drew ae /\ ∃ ag, (∀ wv_4, Ext a8.drew wv_4 -> Loads P 3 ((⟨r, 0, none⟩ : Addr).add 2) (.int .i64 ag) wv_4) /\ ∃ ah : Int, ah = IntKind.wrap .i64 (ag + 1) /\ Calls P 187 ⟨[.string af, .int .i64 ah]⟩ ae fun ai aj =>
 ∃ ak, ai = .returned (.string ak) /\
 ∃ al, Loads P 3 ((⟨r, 0, none⟩ : Addr).add 2) (.int .i64 al) aj /\ ((decide ((0 : Int) < al)) = true ->
 ∃ am, Loads P 3 ((⟨r, 0, none⟩ : Addr).add 2) (.int .i64 am) aj /\ ∃ an : Int, an = IntKind.wrap .i64 (((ak.size : Nat) : Int) - am) /\ (0 <= (an : Int) /\ (an : Int) <= (ak.size : Nat)) /\ (ak.extract 0 an.toNat).size + (S [46]).size <= 9223372036854775807 /\ ∃ ao : ByteArray, ao = (ak.extract 0 an.toNat) ++ (S [46]) /\ (0 <= (an : Int) /\ (an : Int) <= (ak.size : Nat)) /\ ao.size + (ak.extract an.toNat ak.size).size <= 9223372036854775807 /\ ∃ ap : ByteArray, ap = ao ++ (ak.extract an.toNat ak.size) /\ impl_DecText_j0 r ap aj.drew R) /\
 ((decide ((0 : Int) < al)) = false ->
 impl_DecText_j0 r ak aj R))
theorem impl_DecText_ret {d0 : Bool} {a : Option Addr} {a0 a1 : Nat} {d2 : Int} (h : impl_DecText d0 a a0 a1 d2 w R) : Ret P 119 [.agg #[.bool d0, .slice a a0 a1, .int .i64 d2]] w R := Ret.of_fsem Tryz.func119 rfl (Eq.mp (show _ = fsem P Tryz.f119 (fun k => []) _ R w from by kernel_rfl) h)
def impl_natCmp (a0 : Option Addr) (a1 a2 : Nat) (a3 : Option Addr) (a4 a5 : Nat) (w : World) (R : Value -> World -> Prop) : Prop :=
 ((decide ((((a1 : Nat) : Int) : Int) ≠ ((a4 : Nat) : Int))) = true ->
 ((decide ((((a1 : Nat) : Int) : Int) < ((a4 : Nat) : Int))) = true ->
 R (.int .i64 (-1)) w) /\
 ((decide ((((a1 : Nat) : Int) : Int) < ((a4 : Nat) : Int))) = false ->
 R (.int .i64 1) w)) /\
 ((decide ((((a1 : Nat) : Int) : Int) ≠ ((a4 : Nat) : Int))) = false ->
 ∃ a6 : Int, a6 = IntKind.wrap .i64 (((a1 : Nat) : Int) - 1) /\ ∃ (a7 : Int -> World -> Prop) (mu : Int -> World -> Nat), a7 a6 w /\
 ∀ (a8 : Fr) (wv : World) (i : Int), a7 i wv ->
 ((decide ((0 : Int) <= i)) = true ->
 (0 <= (i : Int) /\ (i : Int) < (a1 : Nat)) /\ ptrS a0 fun ad => ∃ a9, (∀ wv_1, Ext wv.drew wv_1 -> Loads P 3 (ad.add (i.toNat * 1)) (.int .i64 a9) wv_1) /\ (0 <= (i : Int) /\ (i : Int) < (a4 : Nat)) /\ ptrS a3 fun aa => ∃ ab, (∀ wv_2, Ext wv.drew wv_2 -> Loads P 3 (aa.add (i.toNat * 1)) (.int .i64 ab) wv_2) /\ ((decide ((a9 : Int) ≠ ab)) = true ->
 (0 <= (i : Int) /\ (i : Int) < (a1 : Nat)) /\ ptrS a0 fun ac => ∃ ae, (∀ wv_3, Ext wv.drew.drew wv_3 -> Loads P 3 (ac.add (i.toNat * 1)) (.int .i64 ae) wv_3) /\ (0 <= (i : Int) /\ (i : Int) < (a4 : Nat)) /\ ptrS a3 fun af => ∃ ag, (∀ wv_4, Ext wv.drew.drew wv_4 -> Loads P 3 (af.add (i.toNat * 1)) (.int .i64 ag) wv_4) /\ ((decide ((ae : Int) < ag)) = true ->
 R (.int .i64 (-1)) wv.drew.drew) /\
 ((decide ((ae : Int) < ag)) = false ->
 R (.int .i64 1) wv.drew.drew)) /\
 ((decide ((a9 : Int) ≠ ab)) = false ->
 ∃ ah : Int, ah = IntKind.wrap .i64 (i - 1) /\ a7 ah wv.drew /\ mu ah wv.drew < mu i wv)) /\
 ((decide ((0 : Int) <= i)) = false ->
 R (.int .i64 0) wv))
theorem impl_natCmp_ret {a : Option Addr} {a0 a1 : Nat} {a2 : Option Addr} {a3 a4 : Nat} (h : impl_natCmp a a0 a1 a2 a3 a4 w R) : Ret P 127 [.slice a a0 a1, .slice a2 a3 a4] w R := Ret.of_fsem Tryz.func127 rfl (Eq.mp (show _ = fsem P Tryz.f127 (fun k => cond (Nat.beq k 7) [(5, .one (.int .i64))] ([])) _ R w from by kernel_rfl) h)
def impl_natSub_j1 (a0 r : Nat) (a1 : World) (a2 : Int -> Int -> World -> Prop) (mu : Int -> Int -> World -> Nat) (borrow a3 : Int) (borrow_1 n_1 : Int) (a4 : World) (R : Value -> World -> Prop) : Prop :=
 (0 <= (a3 : Int) /\ (a3 : Int) < (a0 : Nat)) /\ ∃ wv_2, Stores P 3 ((⟨r, 0, none⟩ : Addr).add (a3.toNat * 1)) (.int .i64 n_1) a4 wv_2 /\
 ∃ a5 : Int, a5 = IntKind.wrap .i64 (a3 + 1) /\ a2 borrow_1 a5 wv_2 /\ mu borrow_1 a5 wv_2 < mu borrow a3 a1
def impl_natSub_j0 (a0 r : Nat) (a1 : World) (a2 : Int -> Int -> World -> Prop) (mu : Int -> Int -> World -> Nat) (borrow a3 n : Int) (W : World) (R : Value -> World -> Prop) : Prop :=
 ((decide ((n : Int) < 0)) = true ->
 ∃ a4 : Int, a4 = IntKind.wrap .i64 (n + 1000000000) /\ impl_natSub_j1 a0 r a1 a2 mu borrow a3 1 a4 W R) /\
 ((decide ((n : Int) < 0)) = false ->
 impl_natSub_j1 a0 r a1 a2 mu borrow a3 0 n W R)
def impl_natSub (a0 : Option Addr) (a1 a2 : Nat) (a3 : Option Addr) (a4 a5 : Nat) (w : World) (R : Value -> World -> Prop) : Prop :=
 (0 <= (((a1 : Nat) : Int) : Int) /\ (((a1 : Nat) : Int) : Int) <= ((a1 : Nat) : Int) /\ ((8 : Nat) : Int) * ((a1 : Nat) : Int) <= 281474976710656) /\
 ∀ r wv, New w (.cells ⟨zeroRow (.int .i64 0) (a1 * 1)⟩ 3 (0, 0)) r wv ->
 ∃ (a6 : Int -> Int -> World -> Prop) (mu : Int -> Int -> World -> Nat), a6 0 0 wv /\
 ∀ (a7 : Fr) (a8 : World) (borrow a9 : Int), a6 borrow a9 a8 ->
 ((decide ((a9 : Int) < ((a1 : Nat) : Int))) = true ->
 (0 <= (a9 : Int) /\ (a9 : Int) < (a1 : Nat)) /\ ptrS a0 fun ad => ∃ aa, Loads P 3 (ad.add (a9.toNat * 1)) (.int .i64 aa) a8 /\ ∃ ab : Int, ab = IntKind.wrap .i64 (aa - borrow) /\ ((decide ((a9 : Int) < ((a4 : Nat) : Int))) = true ->
 (0 <= (a9 : Int) /\ (a9 : Int) < (a4 : Nat)) /\ ptrS a3 fun ac => ∃ ae, Loads P 3 (ac.add (a9.toNat * 1)) (.int .i64 ae) a8 /\ ∃ af : Int, af = IntKind.wrap .i64 (ab - ae) /\ impl_natSub_j0 a1 r a8 a6 mu borrow a9 af a8 R) /\
 ((decide ((a9 : Int) < ((a4 : Nat) : Int))) = false ->
 impl_natSub_j0 a1 r a8 a6 mu borrow a9 ab a8 R)) /\
 ((decide ((a9 : Int) < ((a1 : Nat) : Int))) = false ->
 Calls P 181 ⟨[(.slice (some ⟨r, 0, none⟩) a1 a1)]⟩ a8 fun e ag =>
 ∃ ah ai aj, e = .returned (.slice ah ai aj) /\
 R (.slice ah ai aj) ag)
theorem impl_natSub_ret {a : Option Addr} {a0 a1 : Nat} {a2 : Option Addr} {a3 a4 : Nat} (h : impl_natSub a a0 a1 a2 a3 a4 w R) : Ret P 129 [.slice a a0 a1, .slice a2 a3 a4] w R := Ret.of_fsem Tryz.func129 rfl (Eq.mp (show _ = fsem P Tryz.f129 (fun k => cond (Nat.beq k 5) [(6, .one (.int .i64)), (14, .one (.int .i64))] ([])) _ R w from by kernel_rfl) h)
def impl_IntText (n : Int) (w : World) (R : Value -> World -> Prop) : Prop :=
 Calls P 162 ⟨[.int .i64 n]⟩ w fun e wv =>
 ∃ t4, e = .returned (.string t4) /\
 R (.string t4) wv
theorem impl_IntText_ret {n : Int} (h : impl_IntText n w R) : Ret P 131 [.int .i64 n] w R := Ret.of_fsem Tryz.func131 rfl (Eq.mp (show _ = fsem P Tryz.f131 (fun k => []) _ R w from by kernel_rfl) h)
end Go.Proofs.YtbgokfhcgcoipaaGreatDoor
namespace Go.Proofs.YtbgokfhcgcoipaaGreatDoor
variable {w : World} {R : Value -> World -> Prop}
open Go Go.Proofs.YtbgokfhcgcoipaaGreatDoor.Sx
set_option maxRecDepth 100000
def impl_changed (a0 : Option Addr) (a1 a2 : Nat) (dov : Value) (w : World) (R : Value -> World -> Prop) : Prop :=
 ∀ r wv, New w (.cells ⟨[.slice a0 a1 a2]⟩ 89 (0, 0)) r wv ->
 ∀ a3 a4, New wv (.cells ⟨[.slice none 0 0]⟩ 89 (0, 0)) a3 a4 ->
 ∃ a5 a6 a7, Loads P 89 ⟨r, 0, none⟩ (.agg #[.slice a5 a6 a7]) a4 /\ Calls P 199 ⟨[.agg #[.slice a5 a6 a7]]⟩ a4 fun e a8 =>
 ∃ a9 aa ab, e = .returned (.agg #[.slice a9 aa ab]) /\
 ∀ ac ae, New a8 (.cells ⟨[.int .i32 0, .int .u32 0, .slice none 0 0]⟩ 229 (0, 0)) ac ae ->
 ∃ wv_4, Stores P 229 ⟨ac, 0, none⟩ (.agg #[.int .i32 0, .int .u32 0, .slice a9 aa ab]) ae wv_4 /\
 Calls P 200 ⟨[(.pointer (some ⟨ac, 0, none⟩)), dov]⟩ wv_4 fun af ag =>
 ∃ ah, af = .returned (.bool ah) /\
 ((!ah) = true ->
 ∃ wv_6, Stores P 89 ⟨a3, 0, none⟩ (.agg #[.slice none 0 0]) ag wv_6 /\
 ∃ ai aj ak, Loads P 89 ⟨a3, 0, none⟩ (.agg #[.slice ai aj ak]) wv_6 /\ R (.tuple #[.agg #[.slice ai aj ak], .bool false]) wv_6) /\
 ((!ah) = false ->
 ∃ al am an, Loads P 89 ((⟨ac, 0, none⟩ : Addr).add 2) (.agg #[.slice al am an]) ag /\ ∃ wv_7, Stores P 89 ⟨a3, 0, none⟩ (.agg #[.slice al am an]) ag wv_7 /\
 ∃ ao ap aq, Loads P 89 ⟨a3, 0, none⟩ (.agg #[.slice ao ap aq]) wv_7 /\ R (.tuple #[.agg #[.slice ao ap aq], .bool true]) wv_7)
theorem impl_changed_ret {a : Option Addr} {a0 a1 : Nat} {a2 : Value} (h : impl_changed a a0 a1 a2 w R) : Ret P 134 [.agg #[.slice a a0 a1], a2] w R := Ret.of_fsem Tryz.func134 rfl (Eq.mp (show _ = fsem P Tryz.f134 (fun k => []) _ R w from by kernel_rfl) h)
def impl_BookPost_1 (b cap0 cap1 : Option Addr) (w : World) (R : Value -> World -> Prop) : Prop :=
 ptrS b fun ad => ∃ a0 a1 a2, (∀ wv, Ext w.drew wv -> Loads P 87 (ad.add 0) (.slice a0 a1 a2) wv) /\ ptrS cap0 fun a3 => ∃ a4, (∀ wv_1, Ext w.drew wv_1 -> Loads P 3 a3 (.int .i64 a4) wv_1) /\ (0 <= (a4 : Int) /\ (a4 : Int) < (a1 : Nat)) /\ ptrS a0 fun a5 => ∃ a6 a7 a8 a9 aa, (∀ wv_2, Ext w.drew wv_2 -> Loads P 33 ((a5.add (a4.toNat * 4)).add 1) (.agg #[.string a6, .bool a7, .slice a8 a9 aa]) wv_2) /\ ptrS cap1 fun ab => ∃ ac ae af ag ah, (∀ wv_3, Ext w.drew wv_3 -> Loads P 33 ab (.agg #[.string ac, .bool ae, .slice af ag ah]) wv_3) /\ ∀ (ss : List (Option Nat)) (ai : World), Fl [.cells ⟨[.string ByteArray.empty, .bool false, .slice none 0 0]⟩ 33 (0, 0)] [none] w.drew ss ai ->
 Calls P 23 ⟨[.agg #[.string a6, .bool a7, .slice a8 a9 aa], .agg #[.string ac, .bool ae, .slice af ag ah]]⟩ ai fun e aj =>
 ∃ ak al am an ao ap, e = .returned (.tuple #[.agg #[.string ak, .bool al, .slice am an ao], .bool ap]) /\
 ∀ (ss_1 : List (Option Nat)) (aq : World) (r : Nat), Fl [.cells ⟨[.string ByteArray.empty, .bool false, .slice none 0 0]⟩ 33 (0, 0)] ss aj ss_1 aq -> ss_1[0]? = some (some r) ->
 ∃ wv_7, Stores P 33 ⟨r, 0, none⟩ (.agg #[.string ak, .bool al, .slice am an ao]) aq wv_7 /\
 ptrS b fun ar => ∃ au av aw, (∀ wv_8, Ext wv_7.drew wv_8 -> Loads P 87 (ar.add 0) (.slice au av aw) wv_8) /\ ptrS cap0 fun ax => ∃ ay, (∀ wv_9, Ext wv_7.drew wv_9 -> Loads P 3 ax (.int .i64 ay) wv_9) /\ ∃ az b0 b1 b2 b3, (∀ wv_10, Ext wv_7.drew wv_10 -> Loads P 33 ⟨r, 0, none⟩ (.agg #[.string az, .bool b0, .slice b1 b2 b3]) wv_10) /\ (0 <= (ay : Int) /\ (ay : Int) < (av : Nat)) /\ ptrS au fun b4 => ∃ wv_11, Stores P 33 ((b4.add (ay.toNat * 4)).add 1) (.agg #[.string az, .bool b0, .slice b1 b2 b3]) wv_7.drew wv_11 /\
 R (.bool ap) wv_11
theorem impl_BookPost_1_ret {b a a0 : Option Addr} (h : impl_BookPost_1 b a a0 w R) : Ret P 137 [.pointer b, .pointer a, .pointer a0] w R := Ret.of_fsem Tryz.func137 rfl (Eq.mp (show _ = fsem P Tryz.f137 (fun k => []) _ R w from by kernel_rfl) h)
def slices_IndexFunc_impl_Acct_impl_Acct (a0 : Option Addr) (a1 a2 : Nat) (f : Value) (w : World) (R : Value -> World -> Prop) : Prop :=
 ∃ (a3 : Int -> World -> Prop) (mu : Int -> World -> Nat), a3 0 w /\
 ∀ (a4 : Fr) (wv : World) (t8 : Int), a3 t8 wv ->
 ((decide ((t8 : Int) < ((a1 : Nat) : Int))) = true ->
 (0 <= (t8 : Int) /\ (t8 : Int) < (a1 : Nat)) /\ ptrS a0 fun ad => ∃ a5 a6 a7 a8 a9 aa, Loads P 97 (ad.add (t8.toNat * 4)) (.agg #[.string a5, .string a6, .bool a7, .slice a8 a9 aa]) wv /\ CallW P f [.agg #[.string a5, .string a6, .bool a7, .slice a8 a9 aa]] wv fun e ab =>
 ∃ ac, e = .returned (.bool ac) /\
 (ac = true ->
 R (.int .i64 t8) ab) /\
 (ac = false ->
 ∃ ae : Int, ae = IntKind.wrap .i64 (t8 + 1) /\ a3 ae ab /\ mu ae ab < mu t8 wv)) /\
 ((decide ((t8 : Int) < ((a1 : Nat) : Int))) = false ->
 R (.int .i64 (-1)) wv)
theorem slices_IndexFunc_impl_Acct_impl_Acct_ret {a : Option Addr} {a0 a1 : Nat} {f : Value} (h : slices_IndexFunc_impl_Acct_impl_Acct a a0 a1 f w R) : Ret P 138 [.slice a a0 a1, f] w R := Ret.of_fsem Tryz.func138 rfl (Eq.mp (show _ = fsem P Tryz.f138 (fun k => cond (Nat.beq k 3) [(8, .one (.int .i64))] ([])) _ R w from by kernel_rfl) h)
def impl_AcctAt_1 (a0 a1 : ByteArray) (a2 : Bool) (a3 : Option Addr) (a4 a5 : Nat) (cap0 : Option Addr) (w : World) (R : Value -> World -> Prop) : Prop :=
 ∀ r wv, New w (.cells ⟨[.string a0, .string a1, .bool a2, .slice a3 a4 a5]⟩ 97 (0, 0)) r wv ->
 ∃ t5, Loads P 9 ((⟨r, 0, none⟩ : Addr).add 0) (.string t5) wv /\ ptrS cap0 fun ad => ∃ t6, Loads P 9 ad (.string t6) wv /\ R (.bool (decide (t5 = t6))) wv
theorem impl_AcctAt_1_ret {a0 a1 : ByteArray} {a2 : Bool} {a : Option Addr} {a3 a4 : Nat} {a5 : Option Addr} (h : impl_AcctAt_1 a0 a1 a2 a a3 a4 a5 w R) : Ret P 139 [.agg #[.string a0, .string a1, .bool a2, .slice a a3 a4], .pointer a5] w R := Ret.of_fsem Tryz.func139 rfl (Eq.mp (show _ = fsem P Tryz.f139 (fun k => []) _ R w from by kernel_rfl) h)
def impl_intsOk (x0 : Bool) (a0 : Option Addr) (a1 a2 : Nat) (y0 : Bool) (a3 : Option Addr) (a4 a5 : Nat) (w : World) (R : Value -> World -> Prop) : Prop :=
 ∀ r wv, New w (.cells ⟨[.bool x0, .slice a0 a1 a2]⟩ 31 (0, 0)) r wv ->
 ∀ a6 a7, New wv (.cells ⟨[.bool y0, .slice a3 a4 a5]⟩ 31 (0, 0)) a6 a7 ->
 ∃ a8 a9 aa ab, Loads P 31 ⟨r, 0, none⟩ (.agg #[.bool a8, .slice a9 aa ab]) a7 /\ Calls P 96 ⟨[.agg #[.bool a8, .slice a9 aa ab]]⟩ a7 fun e ac =>
 ∃ t6, e = .returned (.bool t6) /\
 (t6 = true ->
 ∃ ae af ag ah, Loads P 31 ⟨a6, 0, none⟩ (.agg #[.bool ae, .slice af ag ah]) ac /\ Calls P 96 ⟨[.agg #[.bool ae, .slice af ag ah]]⟩ ac fun ai aj =>
 ∃ t9, ai = .returned (.bool t9) /\
 R (.bool t9) aj) /\
 (t6 = false ->
 R (.bool false) ac)
theorem impl_intsOk_ret {x0 : Bool} {a : Option Addr} {a0 a1 : Nat} {y0 : Bool} {a2 : Option Addr} {a3 a4 : Nat} (h : impl_intsOk x0 a a0 a1 y0 a2 a3 a4 w R) : Ret P 142 [.agg #[.bool x0, .slice a a0 a1], .agg #[.bool y0, .slice a2 a3 a4]] w R := Ret.of_fsem Tryz.func142 rfl (Eq.mp (show _ = fsem P Tryz.f142 (fun k => []) _ R w from by kernel_rfl) h)
def impl_IsWord_j0 (s : ByteArray) (W : World) (R : Value -> World -> Prop) : Prop :=
 ∃ (a0 : Int -> World -> Prop) (mu : Int -> World -> Nat), a0 1 W /\
 ∀ (a1 : Fr) (wv : World) (i : Int), a0 i wv ->
 ((decide ((i : Int) < ((s.size : Nat) : Int))) = true ->
 0 <= (i : Int) /\ ∃ b : UInt8, s[i.toNat]? = some b /\ Calls P 205 ⟨[(.int .u8 ((b.toNat : Nat) : Int))]⟩ wv fun e a2 =>
 ∃ a3, e = .returned (.bool a3) /\
 ((!a3) = true ->
 0 <= (i : Int) /\ ∃ a4 : UInt8, s[i.toNat]? = some a4 /\ Calls P 206 ⟨[(.int .u8 ((a4.toNat : Nat) : Int))]⟩ a2 fun a5 a6 =>
 ∃ a7, a5 = .returned (.bool a7) /\
 ((!a7) = true ->
 R (.bool false) a6) /\
 ((!a7) = false ->
 ∃ a8 : Int, a8 = IntKind.wrap .i64 (i + 1) /\ a0 a8 a6 /\ mu a8 a6 < mu i wv)) /\
 ((!a3) = false ->
 (false = true ->
 R (.bool false) a2) /\
 (false = false ->
 ∃ a9 : Int, a9 = IntKind.wrap .i64 (i + 1) /\ a0 a9 a2 /\ mu a9 a2 < mu i wv))) /\
 ((decide ((i : Int) < ((s.size : Nat) : Int))) = false ->
 R (.bool true) wv)
def impl_IsWord (s : ByteArray) (w : World) (R : Value -> World -> Prop) : Prop :=
 ((decide ((((s.size : Nat) : Int) : Int) < 1)) = true ->
 (true = true ->
 (true = true ->
 R (.bool false) w) /\
 (true = false ->
 impl_IsWord_j0 s w R)) /\
 (true = false ->
 0 <= (0 : Int) /\ ∃ a0 : UInt8, s[0]? = some a0 /\ Calls P 205 ⟨[(.int .u8 ((a0.toNat : Nat) : Int))]⟩ w fun a1 a2 =>
 ∃ a3, a1 = .returned (.bool a3) /\
 ((!a3) = true ->
 R (.bool false) a2) /\
 ((!a3) = false ->
 impl_IsWord_j0 s a2 R))) /\
 ((decide ((((s.size : Nat) : Int) : Int) < 1)) = false ->
 ((decide ((12 : Int) < ((s.size : Nat) : Int))) = true ->
 (true = true ->
 R (.bool false) w) /\
 (true = false ->
 impl_IsWord_j0 s w R)) /\
 ((decide ((12 : Int) < ((s.size : Nat) : Int))) = false ->
 0 <= (0 : Int) /\ ∃ a4 : UInt8, s[0]? = some a4 /\ Calls P 205 ⟨[(.int .u8 ((a4.toNat : Nat) : Int))]⟩ w fun a5 a6 =>
 ∃ a7, a5 = .returned (.bool a7) /\
 ((!a7) = true ->
 R (.bool false) a6) /\
 ((!a7) = false ->
 impl_IsWord_j0 s a6 R)))
theorem impl_IsWord_ret {s : ByteArray} (h : impl_IsWord s w R) : Ret P 143 [.string s] w R := Ret.of_fsem Tryz.func143 rfl (Eq.mp (show _ = fsem P Tryz.f143 (fun k => cond (Nat.beq k 5) [(3, .one (.int .i64))] ([])) _ R w from by kernel_rfl) h)
def impl_checkEntry_j1 (a0 : World) (a1 : Int -> Int -> World -> Prop) (mu : Int -> Int -> World -> Nat) (code a2 code_1 : Int) (a3 : World) (R : Value -> World -> Prop) : Prop :=
 ∃ a4 : Int, a4 = IntKind.wrap .i64 (a2 + 1) /\ a1 code_1 a4 a3 /\ mu code_1 a4 a3 < mu code a2 a0
def impl_checkEntry_j2 (a0 : Option Addr) (a1 a2 : Nat) (r a3 : Nat) (code_2 : Int) (a4 : World) (R : Value -> World -> Prop) : Prop :=
 ((decide ((code_2 : Int) ≠ 0)) = true ->
 ∃ wv_12, Stores P 89 ⟨a3, 0, none⟩ (.agg #[.slice none 0 0]) a4 wv_12 /\
 ∃ a5 a6 a7, Loads P 89 ⟨a3, 0, none⟩ (.agg #[.slice a5 a6 a7]) wv_12 /\ R (.tuple #[.agg #[.slice a5 a6 a7], .int .i64 code_2]) wv_12) /\
 ((decide ((code_2 : Int) ≠ 0)) = false ->
 ∃ a8 a9 aa, Loads P 89 ⟨r, 0, none⟩ (.agg #[.slice a8 a9 aa]) a4 /\ Calls P 208 ⟨[.agg #[.slice a8 a9 aa], .slice a0 a1 a2]⟩ a4 fun ab ac =>
 ∃ ae af ag ah, ab = .returned (.tuple #[.agg #[.slice ae af ag], .bool ah]) /\
 ∀ ai aj, New ac (.cells ⟨[.slice none 0 0]⟩ 89 (0, 0)) ai aj ->
 ∃ wv_15, Stores P 89 ⟨ai, 0, none⟩ (.agg #[.slice ae af ag]) aj wv_15 /\
 ((!ah) = true ->
 ∃ wv_16, Stores P 89 ⟨a3, 0, none⟩ (.agg #[.slice none 0 0]) wv_15 wv_16 /\
 ∃ ak al am, Loads P 89 ⟨a3, 0, none⟩ (.agg #[.slice ak al am]) wv_16 /\ R (.tuple #[.agg #[.slice ak al am], .int .i64 5]) wv_16) /\
 ((!ah) = false ->
 ∃ an ao ap, Loads P 89 ⟨ai, 0, none⟩ (.agg #[.slice an ao ap]) wv_15 /\ ∃ wv_17, Stores P 89 ⟨a3, 0, none⟩ (.agg #[.slice an ao ap]) wv_15 wv_17 /\
 ∃ aq ar au, Loads P 89 ⟨a3, 0, none⟩ (.agg #[.slice aq ar au]) wv_17 /\ R (.tuple #[.agg #[.slice aq ar au], .int .i64 0]) wv_17))
def impl_checkEntry_j0 (a0 : Option Addr) (a1 a2 : Nat) (r a3 : Nat) (W : World) (R : Value -> World -> Prop) : Prop :=
 ∃ (a4 : Int -> Int -> World -> Prop) (mu : Int -> Int -> World -> Nat), a4 0 0 W /\
 ∀ (a5 : Fr) (a6 : World) (code a7 : Int), a4 code a7 a6 ->
 ((decide ((a7 : Int) < ((a1 : Nat) : Int))) = true ->
 (0 <= (a7 : Int) /\ (a7 : Int) < (a1 : Nat)) /\ ptrS a0 fun ad => ∃ a8 a9 aa ab ac ae, Loads P 181 (ad.add (a7.toNat * 4)) (.agg #[.string a8, .string a9, .bool aa, .slice ab ac ae]) a6 /\ ∀ af ag, New a6 (.cells ⟨[.string ByteArray.empty, .string ByteArray.empty, .bool false, .slice none 0 0]⟩ 181 (0, 0)) af ag ->
 ∃ wv_6, Stores P 181 ⟨af, 0, none⟩ (.agg #[.string a8, .string a9, .bool aa, .slice ab ac ae]) ag wv_6 /\
 ∃ ah ai aj, Loads P 89 ⟨r, 0, none⟩ (.agg #[.slice ah ai aj]) wv_6 /\ ∃ ak, Loads P 9 ((⟨af, 0, none⟩ : Addr).add 0) (.string ak) wv_6 /\ Calls P 52 ⟨[.agg #[.slice ah ai aj], .string ak]⟩ wv_6 fun al am =>
 ∃ an ao ap aq ar au, al = .returned (.tuple #[.agg #[.string an, .bool ao, .slice ap aq ar], .bool au]) /\
 ∀ av aw, New am (.cells ⟨[.string ByteArray.empty, .bool false, .slice none 0 0]⟩ 33 (0, 0)) av aw ->
 ∃ wv_9, Stores P 33 ⟨av, 0, none⟩ (.agg #[.string an, .bool ao, .slice ap aq ar]) aw wv_9 /\
 ((!au) = true ->
 ∃ wv_10, Stores P 89 ⟨a3, 0, none⟩ (.agg #[.slice none 0 0]) wv_9 wv_10 /\
 ∃ ax ay az, Loads P 89 ⟨a3, 0, none⟩ (.agg #[.slice ax ay az]) wv_10 /\ R (.tuple #[.agg #[.slice ax ay az], .int .i64 2]) wv_10) /\
 ((!au) = false ->
 ∃ b0, Loads P 9 ((⟨av, 0, none⟩ : Addr).add 0) (.string b0) wv_9 /\ ∃ b1, Loads P 9 (((⟨af, 0, none⟩ : Addr).add 1).add 0) (.string b1) wv_9 /\ ((decide (b0 ≠ b1)) = true ->
 impl_checkEntry_j1 a6 a4 mu code a7 3 wv_9 R) /\
 ((decide (b0 ≠ b1)) = false ->
 impl_checkEntry_j1 a6 a4 mu code a7 code wv_9 R))) /\
 ((decide ((a7 : Int) < ((a1 : Nat) : Int))) = false ->
 ((decide ((code : Int) = 0)) = true ->
 Calls P 67 ⟨[.slice a0 a1 a2]⟩ a6 fun b2 b3 =>
 ∃ b4, b2 = .returned (.bool b4) /\
 ((!b4) = true ->
 impl_checkEntry_j2 a0 a1 a2 r a3 4 b3 R) /\
 ((!b4) = false ->
 impl_checkEntry_j2 a0 a1 a2 r a3 code b3 R)) /\
 ((decide ((code : Int) = 0)) = false ->
 (false = true ->
 impl_checkEntry_j2 a0 a1 a2 r a3 4 a6 R) /\
 (false = false ->
 impl_checkEntry_j2 a0 a1 a2 r a3 code a6 R)))
def impl_checkEntry (a0 : Option Addr) (a1 a2 : Nat) (a3 : Option Addr) (a4 a5 : Nat) (w : World) (R : Value -> World -> Prop) : Prop :=
 ∀ r wv, New w (.cells ⟨[.slice a0 a1 a2]⟩ 89 (0, 0)) r wv ->
 ∀ a6 a7, New wv (.cells ⟨[.slice none 0 0]⟩ 89 (0, 0)) a6 a7 ->
 ∃ a8 a9 aa, Loads P 89 ⟨r, 0, none⟩ (.agg #[.slice a8 a9 aa]) a7 /\ Calls P 58 ⟨[.agg #[.slice a8 a9 aa]]⟩ a7 fun e ab =>
 ∃ ac, e = .returned (.bool ac) /\
 ((!ac) = true ->
 (true = true ->
 ∃ wv_3, Stores P 89 ⟨a6, 0, none⟩ (.agg #[.slice none 0 0]) ab wv_3 /\
 ∃ ae af ag, Loads P 89 ⟨a6, 0, none⟩ (.agg #[.slice ae af ag]) wv_3 /\ R (.tuple #[.agg #[.slice ae af ag], .int .i64 1]) wv_3) /\
 (true = false ->
 impl_checkEntry_j0 a3 a4 a5 r a6 ab R)) /\
 ((!ac) = false ->
 Calls P 147 ⟨[.slice a3 a4 a5]⟩ ab fun ah ai =>
 ∃ aj, ah = .returned (.bool aj) /\
 ((!aj) = true ->
 ∃ wv_19, Stores P 89 ⟨a6, 0, none⟩ (.agg #[.slice none 0 0]) ai wv_19 /\
 ∃ ak al am, Loads P 89 ⟨a6, 0, none⟩ (.agg #[.slice ak al am]) wv_19 /\ R (.tuple #[.agg #[.slice ak al am], .int .i64 1]) wv_19) /\
 ((!aj) = false ->
 impl_checkEntry_j0 a3 a4 a5 r a6 ai R))
theorem impl_checkEntry_ret {a : Option Addr} {a0 a1 : Nat} {a2 : Option Addr} {a3 a4 : Nat} (h : impl_checkEntry a a0 a1 a2 a3 a4 w R) : Ret P 145 [.agg #[.slice a a0 a1], .slice a2 a3 a4] w R := Ret.of_fsem Tryz.func145 rfl (Eq.mp (show _ = fsem P Tryz.f145 (fun k => cond (Nat.beq k 6) [(6, .one (.int .i64)), (24, .one (.int .i64))] ([])) _ R w from by kernel_rfl) h)
def impl_nameAt (i : Int) (a0 : Option Addr) (a1 a2 : Nat) (w : World) (R : Value -> World -> Prop) : Prop :=
 ((decide ((i : Int) < 0)) = true ->
 (true = true ->
 R (.string (S [])) w) /\
 (true = false ->
 (0 <= (i : Int) /\ (i : Int) < (a1 : Nat)) /\ ptrS a0 fun ad => ∃ a3, Loads P 9 (ad.add (i.toNat * 1)) (.string a3) w /\ R (.string a3) w)) /\
 ((decide ((i : Int) < 0)) = false ->
 ((decide ((((a1 : Nat) : Int) : Int) <= i)) = true ->
 R (.string (S [])) w) /\
 ((decide ((((a1 : Nat) : Int) : Int) <= i)) = false ->
 (0 <= (i : Int) /\ (i : Int) < (a1 : Nat)) /\ ptrS a0 fun a4 => ∃ a5, Loads P 9 (a4.add (i.toNat * 1)) (.string a5) w /\ R (.string a5) w))
theorem impl_nameAt_ret {i : Int} {a : Option Addr} {a0 a1 : Nat} (h : impl_nameAt i a a0 a1 w R) : Ret P 146 [.int .i64 i, .slice a a0 a1] w R := Ret.of_fsem Tryz.func146 rfl (Eq.mp (show _ = fsem P Tryz.f146 (fun k => []) _ R w from by kernel_rfl) h)
def impl_LegsOk_j0 (a0 : Option Addr) (a1 : Nat) (W : World) (R : Value -> World -> Prop) : Prop :=
 ∃ (a2 : Int -> World -> Prop) (mu : Int -> World -> Nat), a2 0 W /\
 ∀ (a3 : Fr) (wv : World) (a4 : Int), a2 a4 wv ->
 ((decide ((a4 : Int) < ((a1 : Nat) : Int))) = true ->
 (0 <= (a4 : Int) /\ (a4 : Int) < (a1 : Nat)) /\ ptrS a0 fun ad => ∃ a5 a6 a7 a8 a9 aa, Loads P 181 (ad.add (a4.toNat * 4)) (.agg #[.string a5, .string a6, .bool a7, .slice a8 a9 aa]) wv /\ ∀ r ab, New wv (.cells ⟨[.string ByteArray.empty, .string ByteArray.empty, .bool false, .slice none 0 0]⟩ 181 (0, 0)) r ab ->
 ∃ wv_2, Stores P 181 ⟨r, 0, none⟩ (.agg #[.string a5, .string a6, .bool a7, .slice a8 a9 aa]) ab wv_2 /\
 ∃ ac, Loads P 9 ((⟨r, 0, none⟩ : Addr).add 0) (.string ac) wv_2 /\ Calls P 143 ⟨[.string ac]⟩ wv_2 fun e ae =>
 ∃ af, e = .returned (.bool af) /\
 ((!af) = true ->
 (true = true ->
 R (.bool false) ae) /\
 (true = false ->
 ∃ ag : Int, ag = IntKind.wrap .i64 (a4 + 1) /\ a2 ag ae /\ mu ag ae < mu a4 wv)) /\
 ((!af) = false ->
 ∃ ah ai aj ak al, Loads P 33 ((⟨r, 0, none⟩ : Addr).add 1) (.agg #[.string ah, .bool ai, .slice aj ak al]) ae /\ Calls P 102 ⟨[.agg #[.string ah, .bool ai, .slice aj ak al]]⟩ ae fun am an =>
 ∃ ao, am = .returned (.bool ao) /\
 ((!ao) = true ->
 R (.bool false) an) /\
 ((!ao) = false ->
 ∃ ap : Int, ap = IntKind.wrap .i64 (a4 + 1) /\ a2 ap an /\ mu ap an < mu a4 wv))) /\
 ((decide ((a4 : Int) < ((a1 : Nat) : Int))) = false ->
 R (.bool true) wv)
def impl_LegsOk (a0 : Option Addr) (a1 a2 : Nat) (w : World) (R : Value -> World -> Prop) : Prop :=
 ((decide ((((a1 : Nat) : Int) : Int) < 1)) = true ->
 (true = true ->
 R (.bool false) w) /\
 (true = false ->
 impl_LegsOk_j0 a0 a1 w R)) /\
 ((decide ((((a1 : Nat) : Int) : Int) < 1)) = false ->
 ((decide ((8 : Int) < ((a1 : Nat) : Int))) = true ->
 R (.bool false) w) /\
 ((decide ((8 : Int) < ((a1 : Nat) : Int))) = false ->
 impl_LegsOk_j0 a0 a1 w R))
theorem impl_LegsOk_ret {a : Option Addr} {a0 a1 : Nat} (h : impl_LegsOk a a0 a1 w R) : Ret P 147 [.slice a a0 a1] w R := Ret.of_fsem Tryz.func147 rfl (Eq.mp (show _ = fsem P Tryz.f147 (fun k => cond (Nat.beq k 5) [(15, .one (.int .i64))] ([])) _ R w from by kernel_rfl) h)
def impl_intNeg (x0 : Bool) (a0 : Option Addr) (a1 a2 : Nat) (w : World) (R : Value -> World -> Prop) : Prop :=
 ∀ r wv, New w (.cells ⟨[.bool x0, .slice a0 a1 a2]⟩ 31 (0, 0)) r wv ->
 ∀ a3 a4, New wv (.cells ⟨[.bool false, .slice none 0 0]⟩ 31 (0, 0)) a3 a4 ->
 ∃ t4, (∀ wv_2, Ext a4.drew wv_2 -> Loads P 4 ((⟨r, 0, none⟩ : Addr).add 0) (.bool t4) wv_2) /\ ∃ a5 a6 a7, (∀ wv_3, Ext a4.drew wv_3 -> Loads P 29 ((⟨r, 0, none⟩ : Addr).add 1) (.slice a5 a6 a7) wv_3) /\ Calls P 183 ⟨[.slice a5 a6 a7]⟩ a4.drew fun e a8 =>
 ∃ a9 aa ab, e = .returned (.slice a9 aa ab) /\
 Ext a4.drew a8 /\ Calls P 170 ⟨[(.bool (!t4)), .slice a9 aa ab]⟩ a8 fun ac ae =>
 ∃ af ag ah ai, ac = .returned (.agg #[.bool af, .slice ag ah ai]) /\
 ∃ wv_6, Stores P 31 ⟨a3, 0, none⟩ (.agg #[.bool af, .slice ag ah ai]) ae wv_6 /\
 ∃ r0 aj ak al, Loads P 31 ⟨a3, 0, none⟩ (.agg #[.bool r0, .slice aj ak al]) wv_6 /\ R (.agg #[.bool r0, .slice aj ak al]) wv_6
theorem impl_intNeg_ret {x0 : Bool} {a : Option Addr} {a0 a1 : Nat} (h : impl_intNeg x0 a a0 a1 w R) : Ret P 148 [.agg #[.bool x0, .slice a a0 a1]] w R := Ret.of_fsem Tryz.func148 rfl (Eq.mp (show _ = fsem P Tryz.f148 (fun k => []) _ R w from by kernel_rfl) h)
def slices_EqualFunc_impl_Acct_impl_Acct_impl_Acct_impl_Acct (a0 : Option Addr) (a1 a2 : Nat) (a3 : Option Addr) (a4 a5 : Nat) (eq : Value) (w : World) (R : Value -> World -> Prop) : Prop :=
 ((decide ((((a1 : Nat) : Int) : Int) ≠ ((a4 : Nat) : Int))) = true ->
 R (.bool false) w) /\
 ((decide ((((a1 : Nat) : Int) : Int) ≠ ((a4 : Nat) : Int))) = false ->
 ∃ (a6 : Int -> World -> Prop) (mu : Int -> World -> Nat), a6 0 w /\
 ∀ (a7 : Fr) (wv : World) (a8 : Int), a6 a8 wv ->
 ((decide ((a8 : Int) < ((a1 : Nat) : Int))) = true ->
 (0 <= (a8 : Int) /\ (a8 : Int) < (a1 : Nat)) /\ ptrS a0 fun ad => ∃ a9 aa ab ac ae af, Loads P 97 (ad.add (a8.toNat * 4)) (.agg #[.string a9, .string aa, .bool ab, .slice ac ae af]) wv /\ ∀ r ag, New wv (.cells ⟨[.string ByteArray.empty, .string ByteArray.empty, .bool false, .slice none 0 0]⟩ 97 (0, 0)) r ag ->
 ∃ wv_2, Stores P 97 ⟨r, 0, none⟩ (.agg #[.string a9, .string aa, .bool ab, .slice ac ae af]) ag wv_2 /\
 (0 <= (a8 : Int) /\ (a8 : Int) < (a4 : Nat)) /\ ptrS a3 fun ah => ∃ ai aj ak al am an, Loads P 97 (ah.add (a8.toNat * 4)) (.agg #[.string ai, .string aj, .bool ak, .slice al am an]) wv_2 /\ ∀ ao ap, New wv_2 (.cells ⟨[.string ByteArray.empty, .string ByteArray.empty, .bool false, .slice none 0 0]⟩ 97 (0, 0)) ao ap ->
 ∃ wv_4, Stores P 97 ⟨ao, 0, none⟩ (.agg #[.string ai, .string aj, .bool ak, .slice al am an]) ap wv_4 /\
 ∃ aq ar au av aw ax, Loads P 97 ⟨r, 0, none⟩ (.agg #[.string aq, .string ar, .bool au, .slice av aw ax]) wv_4 /\ ∃ ay az b0 b1 b2 b3, Loads P 97 ⟨ao, 0, none⟩ (.agg #[.string ay, .string az, .bool b0, .slice b1 b2 b3]) wv_4 /\ CallW P eq [.agg #[.string aq, .string ar, .bool au, .slice av aw ax], .agg #[.string ay, .string az, .bool b0, .slice b1 b2 b3]] wv_4 fun e b4 =>
 ∃ b5, e = .returned (.bool b5) /\
 ((!b5) = true ->
 R (.bool false) b4) /\
 ((!b5) = false ->
 ∃ b6 : Int, b6 = IntKind.wrap .i64 (a8 + 1) /\ a6 b6 b4 /\ mu b6 b4 < mu a8 wv)) /\
 ((decide ((a8 : Int) < ((a1 : Nat) : Int))) = false ->
 R (.bool true) wv))
theorem slices_EqualFunc_impl_Acct_impl_Acct_impl_Acct_impl_Acct_ret {a : Option Addr} {a0 a1 : Nat} {a2 : Option Addr} {a3 a4 : Nat} {eq : Value} (h : slices_EqualFunc_impl_Acct_impl_Acct_impl_Acct_impl_Acct a a0 a1 a2 a3 a4 eq w R) : Ret P 149 [.slice a a0 a1, .slice a2 a3 a4, eq] w R := Ret.of_fsem Tryz.func149 rfl (Eq.mp (show _ = fsem P Tryz.f149 (fun k => cond (Nat.beq k 5) [(17, .one (.int .i64))] ([])) _ R w from by kernel_rfl) h)
def impl_BookSame_1 (x0 x1 : ByteArray) (x2 : Bool) (a0 : Option Addr) (a1 a2 : Nat) (y0 y1 : ByteArray) (y2 : Bool) (a3 : Option Addr) (a4 a5 : Nat) (w : World) (R : Value -> World -> Prop) : Prop :=
 ∀ r wv, New w (.cells ⟨[.string x0, .string x1, .bool x2, .slice a0 a1 a2]⟩ 97 (0, 0)) r wv ->
 ∀ a6 a7, New wv (.cells ⟨[.string y0, .string y1, .bool y2, .slice a3 a4 a5]⟩ 97 (0, 0)) a6 a7 ->
 ∃ t6, Loads P 9 ((⟨r, 0, none⟩ : Addr).add 0) (.string t6) a7 /\ ∃ t8, Loads P 9 ((⟨a6, 0, none⟩ : Addr).add 0) (.string t8) a7 /\ ((decide (t6 = t8)) = true ->
 ∃ a8 a9 aa ab ac, Loads P 33 ((⟨r, 0, none⟩ : Addr).add 1) (.agg #[.string a8, .bool a9, .slice aa ab ac]) a7 /\ ∃ ae af ag ah ai, Loads P 33 ((⟨a6, 0, none⟩ : Addr).add 1) (.agg #[.string ae, .bool af, .slice ag ah ai]) a7 /\ Calls P 24 ⟨[.agg #[.string a8, .bool a9, .slice aa ab ac], .agg #[.string ae, .bool af, .slice ag ah ai]]⟩ a7 fun e aj =>
 ∃ ak, e = .returned (.bool ak) /\
 R (.bool ak) aj) /\
 ((decide (t6 = t8)) = false ->
 R (.bool false) a7)
theorem impl_BookSame_1_ret {x0 x1 : ByteArray} {x2 : Bool} {a : Option Addr} {a0 a1 : Nat} {y0 y1 : ByteArray} {y2 : Bool} {a2 : Option Addr} {a3 a4 : Nat} (h : impl_BookSame_1 x0 x1 x2 a a0 a1 y0 y1 y2 a2 a3 a4 w R) : Ret P 150 [.agg #[.string x0, .string x1, .bool x2, .slice a a0 a1], .agg #[.string y0, .string y1, .bool y2, .slice a2 a3 a4]] w R := Ret.of_fsem Tryz.func150 rfl (Eq.mp (show _ = fsem P Tryz.f150 (fun k => []) _ R w from by kernel_rfl) h)
def impl_legSums (a0 : Option Addr) (a1 a2 : Nat) (w : World) (R : Value -> World -> Prop) : Prop :=
 ∀ r wv, New w (.cells ⟨[.slice none 0 0, .nilFunc]⟩ 241 (0, 0)) r wv ->
 ∃ wv_1, Stores P 241 ⟨r, 0, none⟩ (.agg #[.slice none 0 0, (.func (.func 209) #[] #[])]) wv wv_1 /\
 ∃ (a3 : Int -> World -> Prop) (mu : Int -> World -> Nat), a3 0 wv_1 /\
 ∀ (a4 : Fr) (a5 : World) (a6 : Int), a3 a6 a5 ->
 ((decide ((a6 : Int) < ((a1 : Nat) : Int))) = true ->
 (0 <= (a6 : Int) /\ (a6 : Int) < (a1 : Nat)) /\ ptrS a0 fun ad => ∃ a7 a8 a9 aa ab ac, Loads P 181 (ad.add (a6.toNat * 4)) (.agg #[.string a7, .string a8, .bool a9, .slice aa ab ac]) a5 /\ ∀ ae af, New a5 (.cells ⟨[.string ByteArray.empty, .string ByteArray.empty, .bool false, .slice none 0 0]⟩ 181 (0, 0)) ae af ->
 ∃ wv_4, Stores P 181 ⟨ae, 0, none⟩ (.agg #[.string a7, .string a8, .bool a9, .slice aa ab ac]) af wv_4 /\
 ∃ ag, Loads P 9 (((⟨ae, 0, none⟩ : Addr).add 1).add 0) (.string ag) wv_4 /\ Calls P 211 ⟨[(.pointer (some ⟨r, 0, none⟩)), .agg #[.string ag, .bool false, .slice none 0 0]]⟩ wv_4 fun e ah =>
 ∃ ai, e = .returned (.pointer ai) /\
 ptrS ai fun aj => ∃ ak al am an, (∀ wv_6, Ext ah.drew wv_6 -> Loads P 31 (aj.add 1) (.agg #[.bool ak, .slice al am an]) wv_6) /\ ∃ ao ap aq ar, (∀ wv_7, Ext ah.drew wv_7 -> Loads P 31 (((⟨ae, 0, none⟩ : Addr).add 1).add 1) (.agg #[.bool ao, .slice ap aq ar]) wv_7) /\ Calls P 94 ⟨[.agg #[.bool ak, .slice al am an], .agg #[.bool ao, .slice ap aq ar]]⟩ ah.drew fun au av =>
 ∃ aw ax ay az, au = .returned (.agg #[.bool aw, .slice ax ay az]) /\
 ptrS ai fun b0 => ∃ wv_9, Stores P 31 (b0.add 1) (.agg #[.bool aw, .slice ax ay az]) av wv_9 /\
 ∃ b1 : Int, b1 = IntKind.wrap .i64 (a6 + 1) /\ a3 b1 wv_9 /\ mu b1 wv_9 < mu a6 a5) /\
 ((decide ((a6 : Int) < ((a1 : Nat) : Int))) = false ->
 ∃ b2 b3 b4, Loads P 114 ((⟨r, 0, none⟩ : Addr).add 0) (.slice b2 b3 b4) a5 /\ R (.slice b2 b3 b4) a5)
theorem impl_legSums_ret {a : Option Addr} {a0 a1 : Nat} (h : impl_legSums a a0 a1 w R) : Ret P 151 [.slice a a0 a1] w R := Ret.of_fsem Tryz.func151 rfl (Eq.mp (show _ = fsem P Tryz.f151 (fun k => cond (Nat.beq k 4) [(10, .one (.int .i64))] ([])) _ R w from by kernel_rfl) h)
def spec_l01In (n lo hi : Int) (w : World) (R : Value -> World -> Prop) : Prop :=
 ((decide ((lo : Int) <= n)) = true ->
 R (.bool (decide ((n : Int) <= hi))) w) /\
 ((decide ((lo : Int) <= n)) = false ->
 R (.bool false) w)
theorem spec_l01In_ret {n lo hi : Int} (h : spec_l01In n lo hi w R) : Ret P 157 [.int .i64 n, .int .i64 lo, .int .i64 hi] w R := Ret.of_fsem Tryz.func157 rfl (Eq.mp (show _ = fsem P Tryz.f157 (fun k => []) _ R w from by kernel_rfl) h)
def strconv_Itoa (i : Int) (w : World) (R : Value -> World -> Prop) : Prop :=
 Calls P 223 ⟨[.int .i64 i]⟩ w fun e wv =>
 ∃ t4, e = .returned (.string t4) /\
 R (.string t4) wv
end Go.Proofs.YtbgokfhcgcoipaaGreatDoor
namespace Go.Proofs.YtbgokfhcgcoipaaGreatDoor
variable {w : World} {R : Value -> World -> Prop}
open Go Go.Proofs.YtbgokfhcgcoipaaGreatDoor.Sx
set_option maxRecDepth 100000
def spec_l04Make (neg : Bool) (a0 : Option Addr) (a1 a2 : Nat) (w : World) (R : Value -> World -> Prop) : Prop :=
 ∀ r wv, New w (.cells ⟨[.bool false, .slice none 0 0]⟩ 31 (0, 0)) r wv ->
 Calls P 225 ⟨[.slice a0 a1 a2]⟩ wv fun e a3 =>
 ∃ a4 a5 a6, e = .returned (.slice a4 a5 a6) /\
 (neg = true ->
 ∀ a7 a8, New a3 (.cells ⟨[]⟩ 3 (0, 0)) a7 a8 ->
 ∃ a9 aa ab ac, Appends P [29, 29] [(.slice (some ⟨a7, 0, none⟩) 0 0), .slice a4 a5 a6] (.slice a9 aa ab) a8 ac /\
 ∃ wv_4, Stores P 31 ⟨r, 0, none⟩ (.agg #[(.bool (decide ((0 : Int) < ((a5 : Nat) : Int)))), .slice a9 aa ab]) ac wv_4 /\
 ∃ r0 ae af ag, Loads P 31 ⟨r, 0, none⟩ (.agg #[.bool r0, .slice ae af ag]) wv_4 /\ R (.agg #[.bool r0, .slice ae af ag]) wv_4) /\
 (neg = false ->
 ∀ ah ai, New a3 (.cells ⟨[]⟩ 3 (0, 0)) ah ai ->
 ∃ aj ak al am, Appends P [29, 29] [(.slice (some ⟨ah, 0, none⟩) 0 0), .slice a4 a5 a6] (.slice aj ak al) ai am /\
 ∃ wv_7, Stores P 31 ⟨r, 0, none⟩ (.agg #[.bool false, .slice aj ak al]) am wv_7 /\
 ∃ r0_1 an ao ap, Loads P 31 ⟨r, 0, none⟩ (.agg #[.bool r0_1, .slice an ao ap]) wv_7 /\ R (.agg #[.bool r0_1, .slice an ao ap]) wv_7)
theorem spec_l04Make_ret {a : Bool} {a0 : Option Addr} {a1 a2 : Nat} (h : spec_l04Make a a0 a1 a2 w R) : Ret P 164 [.bool a, .slice a0 a1 a2] w R := Ret.of_fsem Tryz.func164 rfl (Eq.mp (show _ = fsem P Tryz.f164 (fun k => []) _ R w from by kernel_rfl) h)
def spec_NatOf (n : Int) (w : World) (R : Value -> World -> Prop) : Prop :=
 ∀ r wv, New w (.cells ⟨[]⟩ 3 (0, 0)) r wv ->
 ∃ (a0 : Int -> Option Addr -> Nat -> Nat -> World -> Prop) (mu : Int -> Option Addr -> Nat -> Nat -> World -> Nat), a0 n (some ⟨r, 0, none⟩) 0 0 wv /\
 ∀ (a1 : Fr) (a2 : World) (n_1 : Int) (a3 : Option Addr) (a4 a5 : Nat), a0 n_1 a3 a4 a5 a2 ->
 ((decide ((0 : Int) < n_1)) = true ->
 (1000000000 : Int) ≠ 0 /\ ∃ t9 : Int, t9 = Int.tmod n_1 1000000000 /\ ∀ a6 a7, New a2 (.cells ⟨[.int .i64 t9]⟩ 3 (0, 0)) a6 a7 ->
 ∃ a8 a9 aa ab, Appends P [29, 29] [.slice a3 a4 a5, (.slice (some ⟨a6, 0, none⟩) 1 1)] (.slice a8 a9 aa) a7 ab /\
 (1000000000 : Int) ≠ 0 /\ ∃ ac : Int, ac = IntKind.wrap .i64 (Int.tdiv n_1 1000000000) /\ a0 ac a8 a9 aa ab /\ mu ac a8 a9 aa ab < mu n_1 a3 a4 a5 a2) /\
 ((decide ((0 : Int) < n_1)) = false ->
 R (.slice a3 a4 a5) a2)
theorem spec_NatOf_ret {n : Int} (h : spec_NatOf n w R) : Ret P 165 [.int .i64 n] w R := Ret.of_fsem Tryz.func165 rfl (Eq.mp (show _ = fsem P Tryz.f165 (fun k => cond (Nat.beq k 3) [(0, .one (.int .i64)), (3, .one .slice)] ([])) _ R w from by kernel_rfl) h)
def spec_l01Byte_j0 (x : Int) (W : World) (R : Value -> World -> Prop) : Prop :=
 R (.int .i64 x) W
def spec_l01Byte (c : Option Addr) (w : World) (R : Value -> World -> Prop) : Prop :=
 ptrS c fun ad => ∃ t8, Loads P 3 (ad.add 2) (.int .i64 t8) w /\ ∃ t9 : Int, t9 = IntKind.wrap .i64 (t8 * 6364136223846793005) /\ ∃ a0 : Int, a0 = IntKind.wrap .i64 (t9 + 1442695040888963407) /\ ptrS c fun a1 => ∃ wv, Stores P 3 (a1.add 2) (.int .i64 a0) w wv /\
 ptrS c fun a2 => ∃ a3, (∀ wv_1, Ext wv.drew wv_1 -> Loads P 3 (a2.add 2) (.int .i64 a3) wv_1) /\ 0 <= (33 : Int) /\ ∃ a4 : Int, a4 = Int.fdiv a3 (2 ^ (min (33 : Int).toNat (IntKind.bits .i64))) /\ ptrS c fun a5 => ∃ a6, (∀ wv_2, Ext wv.drew wv_2 -> Loads P 3 (a5.add 2) (.int .i64 a6) wv_2) /\ 0 <= (45 : Int) /\ ∃ a7 : Int, a7 = Int.fdiv a6 (2 ^ (min (45 : Int).toNat (IntKind.bits .i64))) /\ ∃ a8 : Int, a8 = IntKind.wrap .i64 (BitVec.ofInt (IntKind.bits .i64) a4 ^^^ BitVec.ofInt (IntKind.bits .i64) a7).toNat /\ ∃ a9 : Int, a9 = IntKind.wrap .i64 (BitVec.ofInt (IntKind.bits .i64) a8 &&& BitVec.ofInt (IntKind.bits .i64) 255).toNat /\ ptrS c fun aa => ∃ ab, (∀ wv_3, Ext wv.drew.drew wv_3 -> Loads P 3 (aa.add 1) (.int .i64 ab) wv_3) /\ ptrS c fun ac => ∃ ae af ag, (∀ wv_4, Ext wv.drew.drew wv_4 -> Loads P 28 (ac.add 0) (.slice ae af ag) wv_4) /\ ((decide ((ab : Int) < ((af : Nat) : Int))) = true ->
 ptrS c fun ah => ∃ ai aj ak, (∀ wv_5, Ext wv.drew.drew.drew wv_5 -> Loads P 28 (ah.add 0) (.slice ai aj ak) wv_5) /\ ptrS c fun al => ∃ am, (∀ wv_6, Ext wv.drew.drew.drew wv_6 -> Loads P 3 (al.add 1) (.int .i64 am) wv_6) /\ (0 <= (am : Int) /\ (am : Int) < (aj : Nat)) /\ ptrS ai fun an => ∃ ao, (∀ wv_7, Ext wv.drew.drew.drew wv_7 -> Loads P 5 (an.add (am.toNat * 1)) (.int .u8 ao) wv_7) /\ ∃ ap : Int, ap = IntKind.wrap .i64 ao /\ ∃ aq : Int, aq = IntKind.wrap .i64 (a9 + ap) /\ ∃ ar : Int, ar = IntKind.wrap .i64 (BitVec.ofInt (IntKind.bits .i64) aq &&& BitVec.ofInt (IntKind.bits .i64) 255).toNat /\ ptrS c fun au => ∃ av, Loads P 3 (au.add 1) (.int .i64 av) wv.drew.drew.drew /\ ∃ aw : Int, aw = IntKind.wrap .i64 (av + 1) /\ ptrS c fun ax => ∃ wv_8, Stores P 3 (ax.add 1) (.int .i64 aw) wv.drew.drew.drew wv_8 /\
 spec_l01Byte_j0 ar wv_8 R) /\
 ((decide ((ab : Int) < ((af : Nat) : Int))) = false ->
 spec_l01Byte_j0 a9 wv.drew.drew R)
theorem spec_l01Byte_ret {c : Option Addr} (h : spec_l01Byte c w R) : Ret P 166 [.pointer c] w R := Ret.of_fsem Tryz.func166 rfl (Eq.mp (show _ = fsem P Tryz.f166 (fun k => []) _ R w from by kernel_rfl) h)
def strings_Join_j0 (a0 : Option Addr) (a1 a2 : Nat) (sep : ByteArray) (n : Int) (W : World) (R : Value -> World -> Prop) : Prop :=
 ∃ (a3 : Int -> Int -> World -> Prop) (mu : Int -> Int -> World -> Nat), a3 n 0 W /\
 ∀ (a4 : Fr) (wv : World) (n_1 a5 : Int), a3 n_1 a5 wv ->
 ((decide ((a5 : Int) < ((a1 : Nat) : Int))) = true ->
 (0 <= (a5 : Int) /\ (a5 : Int) < (a1 : Nat)) /\ ptrS a0 fun a6 => ∃ a7, Loads P 9 (a6.add (a5.toNat * 1)) (.string a7) wv /\ ∃ a8 : Int, a8 = IntKind.wrap .i64 (9223372036854775807 - n_1) /\ ((decide ((a8 : Int) < ((a7.size : Nat) : Int))) = true ->
 False) /\
 ((decide ((a8 : Int) < ((a7.size : Nat) : Int))) = false ->
 ∃ a9 : Int, a9 = IntKind.wrap .i64 (n_1 + ((a7.size : Nat) : Int)) /\ ∃ aa : Int, aa = IntKind.wrap .i64 (a5 + 1) /\ a3 a9 aa wv /\ mu a9 aa wv < mu n_1 a5 wv)) /\
 ((decide ((a5 : Int) < ((a1 : Nat) : Int))) = false ->
 ∀ r ab, New wv (.cells ⟨[(.pointer none), .slice none 0 0]⟩ 248 (0, 0)) r ab ->
 Calls P 226 ⟨[(.pointer (some ⟨r, 0, none⟩)), .int .i64 n_1]⟩ ab fun e ac =>
 e = .returned (.tuple #[]) /\
 (0 <= (0 : Int) /\ (0 : Int) < (a1 : Nat)) /\ ptrS a0 fun ae => ∃ af, Loads P 9 (ae.add (0 * 1)) (.string af) ac /\ Calls P 227 ⟨[(.pointer (some ⟨r, 0, none⟩)), .string af]⟩ ac fun ag ah =>
 ∃ (ai : Int) (aj : Value), ag = .returned (.tuple #[.int .i64 ai, aj]) /\
 (0 <= (1 : Int) /\ (1 : Int) <= (a1 : Nat)) /\ ∃ (ak : Int -> World -> Prop) (al : Int -> World -> Nat), ak 0 ah /\
 ∀ (am : Fr) (an : World) (ao : Int), ak ao an ->
 ((decide ((ao : Int) < (((a1 - 1) : Nat) : Int))) = true ->
 (0 <= (ao : Int) /\ (ao : Int) < ((a1 - 1) : Nat)) /\ ptrS (sub a0 1 a2 1) fun ap => ∃ aq, Loads P 9 (ap.add (ao.toNat * 1)) (.string aq) an /\ Calls P 227 ⟨[(.pointer (some ⟨r, 0, none⟩)), .string sep]⟩ an fun ar au =>
 ∃ (av : Int) (aw : Value), ar = .returned (.tuple #[.int .i64 av, aw]) /\
 Calls P 227 ⟨[(.pointer (some ⟨r, 0, none⟩)), .string aq]⟩ au fun ax ay =>
 ∃ (az : Int) (b0 : Value), ax = .returned (.tuple #[.int .i64 az, b0]) /\
 ∃ b1 : Int, b1 = IntKind.wrap .i64 (ao + 1) /\ ak b1 ay /\ al b1 ay < al ao an) /\
 ((decide ((ao : Int) < (((a1 - 1) : Nat) : Int))) = false ->
 Calls P 228 ⟨[(.pointer (some ⟨r, 0, none⟩))]⟩ an fun b2 b3 =>
 ∃ b4, b2 = .returned (.string b4) /\
 R (.string b4) b3))
def strings_Join (a0 : Option Addr) (a1 a2 : Nat) (sep : ByteArray) (w : World) (R : Value -> World -> Prop) : Prop :=
 ((decide ((((a1 : Nat) : Int) : Int) = 0)) = true ->
 R (.string (S [])) w) /\
 ((decide ((((a1 : Nat) : Int) : Int) = 0)) = false ->
 ((decide ((((a1 : Nat) : Int) : Int) = 1)) = true ->
 (0 <= (0 : Int) /\ (0 : Int) < (a1 : Nat)) /\ ptrS a0 fun ad => ∃ a3, Loads P 9 (ad.add (0 * 1)) (.string a3) w /\ R (.string a3) w) /\
 ((decide ((((a1 : Nat) : Int) : Int) = 1)) = false ->
 ((decide ((0 : Int) < ((sep.size : Nat) : Int))) = true ->
 ∃ a4 : Int, a4 = IntKind.wrap .i64 (((a1 : Nat) : Int) - 1) /\ (a4 : Int) ≠ 0 /\ ∃ a5 : Int, a5 = IntKind.wrap .i64 (Int.tdiv 9223372036854775807 a4) /\ ((decide ((a5 : Int) <= ((sep.size : Nat) : Int))) = true ->
 False) /\
 ((decide ((a5 : Int) <= ((sep.size : Nat) : Int))) = false ->
 ∃ a6 : Int, a6 = IntKind.wrap .i64 (((a1 : Nat) : Int) - 1) /\ ∃ a7 : Int, a7 = IntKind.wrap .i64 (((sep.size : Nat) : Int) * a6) /\ ∃ a8 : Int, a8 = IntKind.wrap .i64 (0 + a7) /\ strings_Join_j0 a0 a1 a2 sep a8 w R)) /\
 ((decide ((0 : Int) < ((sep.size : Nat) : Int))) = false ->
 strings_Join_j0 a0 a1 a2 sep 0 w R)))
def impl_CurPlaces (code : ByteArray) (w : World) (R : Value -> World -> Prop) : Prop :=
 Calls P 229 ⟨[.string code]⟩ w fun e wv =>
 ∃ a0 a1 a2 a3 t7, e = .returned (.tuple #[.agg #[.string a0, .string a1, .int .i64 a2, .int .i64 a3], .bool t7]) /\
 ∀ r a4, New wv (.cells ⟨[.string ByteArray.empty, .string ByteArray.empty, .int .i64 0, .int .i64 0]⟩ 252 (0, 0)) r a4 ->
 ∃ wv_2, Stores P 252 ⟨r, 0, none⟩ (.agg #[.string a0, .string a1, .int .i64 a2, .int .i64 a3]) a4 wv_2 /\
 ∃ a5, Loads P 3 ((⟨r, 0, none⟩ : Addr).add 2) (.int .i64 a5) wv_2 /\ R (.int .i64 a5) wv_2
theorem impl_CurPlaces_ret {a : ByteArray} (h : impl_CurPlaces a w R) : Ret P 169 [.string a] w R := Ret.of_fsem Tryz.func169 rfl (Eq.mp (show _ = fsem P Tryz.f169 (fun k => []) _ R w from by kernel_rfl) h)
def impl_signed (neg : Bool) (a0 : Option Addr) (a1 a2 : Nat) (w : World) (R : Value -> World -> Prop) : Prop :=
 ∀ r wv, New w (.cells ⟨[.bool false, .slice none 0 0]⟩ 31 (0, 0)) r wv ->
 (neg = true ->
 ∃ wv_1, Stores P 31 ⟨r, 0, none⟩ (.agg #[(.bool (decide ((0 : Int) < ((a1 : Nat) : Int)))), .slice a0 a1 a2]) wv wv_1 /\
 ∃ r0 a3 a4 a5, Loads P 31 ⟨r, 0, none⟩ (.agg #[.bool r0, .slice a3 a4 a5]) wv_1 /\ R (.agg #[.bool r0, .slice a3 a4 a5]) wv_1) /\
 (neg = false ->
 ∃ wv_2, Stores P 31 ⟨r, 0, none⟩ (.agg #[.bool false, .slice a0 a1 a2]) wv wv_2 /\
 ∃ r0_1 a6 a7 a8, Loads P 31 ⟨r, 0, none⟩ (.agg #[.bool r0_1, .slice a6 a7 a8]) wv_2 /\ R (.agg #[.bool r0_1, .slice a6 a7 a8]) wv_2)
theorem impl_signed_ret {a : Bool} {a0 : Option Addr} {a1 a2 : Nat} (h : impl_signed a a0 a1 a2 w R) : Ret P 170 [.bool a, .slice a0 a1 a2] w R := Ret.of_fsem Tryz.func170 rfl (Eq.mp (show _ = fsem P Tryz.f170 (fun k => []) _ R w from by kernel_rfl) h)
def impl_natAdd_j1 (a0 : World) (a1 : Option Addr -> Nat -> Nat -> Int -> Int -> World -> Prop) (mu : Option Addr -> Nat -> Nat -> Int -> Int -> World -> Nat) (a2 : Option Addr) (a3 a4 : Nat) (carry i carry_2 : Int) (a5 : World) (R : Value -> World -> Prop) : Prop :=
 (1000000000 : Int) ≠ 0 /\ ∃ a6 : Int, a6 = Int.tmod carry_2 1000000000 /\ ∀ a7 a8, New a5 (.cells ⟨[.int .i64 a6]⟩ 3 (0, 0)) a7 a8 ->
 ∃ a9 aa ab ac, Appends P [29, 29] [.slice a2 a3 a4, (.slice (some ⟨a7, 0, none⟩) 1 1)] (.slice a9 aa ab) a8 ac /\
 (1000000000 : Int) ≠ 0 /\ ∃ ae : Int, ae = IntKind.wrap .i64 (Int.tdiv carry_2 1000000000) /\ ∃ af : Int, af = IntKind.wrap .i64 (i + 1) /\ a1 a9 aa ab ae af ac /\ mu a9 aa ab ae af ac < mu a2 a3 a4 carry i a0
def impl_natAdd_j0 (a0 : Option Addr) (a1 : Nat) (a2 : World) (a3 : Option Addr -> Nat -> Nat -> Int -> Int -> World -> Prop) (mu : Option Addr -> Nat -> Nat -> Int -> Int -> World -> Nat) (a4 : Option Addr) (a5 a6 : Nat) (carry i carry_1 : Int) (W : World) (R : Value -> World -> Prop) : Prop :=
 ((decide ((i : Int) < ((a1 : Nat) : Int))) = true ->
 (0 <= (i : Int) /\ (i : Int) < (a1 : Nat)) /\ ptrS a0 fun a7 => ∃ a8, Loads P 3 (a7.add (i.toNat * 1)) (.int .i64 a8) W /\ ∃ a9 : Int, a9 = IntKind.wrap .i64 (carry_1 + a8) /\ impl_natAdd_j1 a2 a3 mu a4 a5 a6 carry i a9 W R) /\
 ((decide ((i : Int) < ((a1 : Nat) : Int))) = false ->
 impl_natAdd_j1 a2 a3 mu a4 a5 a6 carry i carry_1 W R)
def impl_natAdd (a0 : Option Addr) (a1 a2 : Nat) (a3 : Option Addr) (a4 a5 : Nat) (w : World) (R : Value -> World -> Prop) : Prop :=
 ∃ a6 : Int, a6 = (if ((a4 : Nat) : Int) > ((a1 : Nat) : Int) then ((a4 : Nat) : Int) else ((a1 : Nat) : Int)) /\ ∃ a7 : Int, a7 = IntKind.wrap .i64 (a6 + 1) /\ (0 <= (0 : Int) /\ (0 : Int) <= a7 /\ ((8 : Nat) : Int) * a7 <= 281474976710656) /\
 ∀ r wv, New w (.cells ⟨zeroRow (.int .i64 0) (a7.toNat * 1)⟩ 3 (0, 0)) r wv ->
 ∃ (a8 : Option Addr -> Nat -> Nat -> Int -> Int -> World -> Prop) (mu : Option Addr -> Nat -> Nat -> Int -> Int -> World -> Nat), a8 (some ⟨r, 0, none⟩) 0 a7.toNat 0 0 wv /\
 ∀ (a9 : Fr) (aa : World) (ab : Option Addr) (ac ae : Nat) (carry i : Int), a8 ab ac ae carry i aa ->
 ∃ af : Int, af = (if ((a4 : Nat) : Int) > ((a1 : Nat) : Int) then ((a4 : Nat) : Int) else ((a1 : Nat) : Int)) /\ ((decide ((i : Int) < af)) = true ->
 ((decide ((i : Int) < ((a1 : Nat) : Int))) = true ->
 (0 <= (i : Int) /\ (i : Int) < (a1 : Nat)) /\ ptrS a0 fun ad => ∃ ag, Loads P 3 (ad.add (i.toNat * 1)) (.int .i64 ag) aa /\ ∃ ah : Int, ah = IntKind.wrap .i64 (carry + ag) /\ impl_natAdd_j0 a3 a4 aa a8 mu ab ac ae carry i ah aa R) /\
 ((decide ((i : Int) < ((a1 : Nat) : Int))) = false ->
 impl_natAdd_j0 a3 a4 aa a8 mu ab ac ae carry i carry aa R)) /\
 ((decide ((i : Int) < af)) = false ->
 ∀ ai aj, New aa (.cells ⟨[.int .i64 carry]⟩ 3 (0, 0)) ai aj ->
 ∃ ak al am an, Appends P [29, 29] [.slice ab ac ae, (.slice (some ⟨ai, 0, none⟩) 1 1)] (.slice ak al am) aj an /\
 Calls P 181 ⟨[.slice ak al am]⟩ an fun e ao =>
 ∃ ap aq ar, e = .returned (.slice ap aq ar) /\
 R (.slice ap aq ar) ao)
theorem impl_natAdd_ret {a : Option Addr} {a0 a1 : Nat} {a2 : Option Addr} {a3 a4 : Nat} (h : impl_natAdd a a0 a1 a2 a3 a4 w R) : Ret P 171 [.slice a a0 a1, .slice a2 a3 a4] w R := Ret.of_fsem Tryz.func171 rfl (Eq.mp (show _ = fsem P Tryz.f171 (fun k => cond (Nat.beq k 5) [(5, .one .slice), (6, .one (.int .i64)), (7, .one (.int .i64))] ([])) _ R w from by kernel_rfl) h)
def impl_sameInts (a0 : Option Addr) (a1 a2 : Nat) (a3 : Option Addr) (a4 a5 : Nat) (w : World) (R : Value -> World -> Prop) : Prop :=
 ((decide ((((a1 : Nat) : Int) : Int) ≠ ((a4 : Nat) : Int))) = true ->
 R (.bool false) w) /\
 ((decide ((((a1 : Nat) : Int) : Int) ≠ ((a4 : Nat) : Int))) = false ->
 ∃ (a6 : Int -> World -> Prop) (mu : Int -> World -> Nat), a6 0 w /\
 ∀ (a7 : Fr) (wv : World) (a8 : Int), a6 a8 wv ->
 ((decide ((a8 : Int) < ((a1 : Nat) : Int))) = true ->
 (0 <= (a8 : Int) /\ (a8 : Int) < (a1 : Nat)) /\ ptrS a0 fun ad => ∃ a9, (∀ wv_1, Ext wv.drew wv_1 -> Loads P 3 (ad.add (a8.toNat * 1)) (.int .i64 a9) wv_1) /\ (0 <= (a8 : Int) /\ (a8 : Int) < (a4 : Nat)) /\ ptrS a3 fun aa => ∃ ab, (∀ wv_2, Ext wv.drew wv_2 -> Loads P 3 (aa.add (a8.toNat * 1)) (.int .i64 ab) wv_2) /\ ((decide ((a9 : Int) ≠ ab)) = true ->
 R (.bool false) wv.drew) /\
 ((decide ((a9 : Int) ≠ ab)) = false ->
 ∃ ac : Int, ac = IntKind.wrap .i64 (a8 + 1) /\ a6 ac wv.drew /\ mu ac wv.drew < mu a8 wv)) /\
 ((decide ((a8 : Int) < ((a1 : Nat) : Int))) = false ->
 R (.bool true) wv))
theorem impl_sameInts_ret {a : Option Addr} {a0 a1 : Nat} {a2 : Option Addr} {a3 a4 : Nat} (h : impl_sameInts a a0 a1 a2 a3 a4 w R) : Ret P 172 [.slice a a0 a1, .slice a2 a3 a4] w R := Ret.of_fsem Tryz.func172 rfl (Eq.mp (show _ = fsem P Tryz.f172 (fun k => cond (Nat.beq k 5) [(13, .one (.int .i64))] ([])) _ R w from by kernel_rfl) h)
def impl_NatOk_j0 (a0 : Option Addr) (a1 : Nat) (W : World) (R : Value -> World -> Prop) : Prop :=
 ∃ (a2 : Int -> World -> Prop) (mu : Int -> World -> Nat), a2 0 W /\
 ∀ (a3 : Fr) (wv : World) (a4 : Int), a2 a4 wv ->
 ((decide ((a4 : Int) < ((a1 : Nat) : Int))) = true ->
 (0 <= (a4 : Int) /\ (a4 : Int) < (a1 : Nat)) /\ ptrS a0 fun ad => ∃ a5, Loads P 3 (ad.add (a4.toNat * 1)) (.int .i64 a5) wv /\ ((decide ((a5 : Int) < 0)) = true ->
 (true = true ->
 R (.bool false) wv) /\
 (true = false ->
 ∃ a6 : Int, a6 = IntKind.wrap .i64 (a4 + 1) /\ a2 a6 wv /\ mu a6 wv < mu a4 wv)) /\
 ((decide ((a5 : Int) < 0)) = false ->
 ((decide ((1000000000 : Int) <= a5)) = true ->
 R (.bool false) wv) /\
 ((decide ((1000000000 : Int) <= a5)) = false ->
 ∃ a7 : Int, a7 = IntKind.wrap .i64 (a4 + 1) /\ a2 a7 wv /\ mu a7 wv < mu a4 wv))) /\
 ((decide ((a4 : Int) < ((a1 : Nat) : Int))) = false ->
 R (.bool true) wv)
def impl_NatOk (a0 : Option Addr) (a1 a2 : Nat) (w : World) (R : Value -> World -> Prop) : Prop :=
 ((decide ((50 : Int) < ((a1 : Nat) : Int))) = true ->
 (true = true ->
 R (.bool false) w) /\
 (true = false ->
 impl_NatOk_j0 a0 a1 w R)) /\
 ((decide ((50 : Int) < ((a1 : Nat) : Int))) = false ->
 ((decide ((0 : Int) < ((a1 : Nat) : Int))) = true ->
 ∃ a3 : Int, a3 = IntKind.wrap .i64 (((a1 : Nat) : Int) - 1) /\ (0 <= (a3 : Int) /\ (a3 : Int) < (a1 : Nat)) /\ ptrS a0 fun a4 => ∃ a5, Loads P 3 (a4.add (a3.toNat * 1)) (.int .i64 a5) w /\ ((decide ((a5 : Int) = 0)) = true ->
 R (.bool false) w) /\
 ((decide ((a5 : Int) = 0)) = false ->
 impl_NatOk_j0 a0 a1 w R)) /\
 ((decide ((0 : Int) < ((a1 : Nat) : Int))) = false ->
 (false = true ->
 R (.bool false) w) /\
 (false = false ->
 impl_NatOk_j0 a0 a1 w R)))
theorem impl_NatOk_ret {a : Option Addr} {a0 a1 : Nat} (h : impl_NatOk a a0 a1 w R) : Ret P 173 [.slice a a0 a1] w R := Ret.of_fsem Tryz.func173 rfl (Eq.mp (show _ = fsem P Tryz.f173 (fun k => cond (Nat.beq k 5) [(24, .one (.int .i64))] ([])) _ R w from by kernel_rfl) h)
def spec_l08Table (w : World) (R : Value -> World -> Prop) : Prop :=
 ∀ r wv, New w (.cells ⟨[(.string (S [65, 85, 68])), (.string (S [48, 51, 54])), .int .i64 2, .int .i64 5, (.string (S [66, 72, 68])), (.string (S [48, 52, 56])), .int .i64 3, .int .i64 5, (.string (S [67, 65, 68])), (.string (S [49, 50, 52])), .int .i64 2, .int .i64 5, (.string (S [67, 72, 70])), (.string (S [55, 53, 54])), .int .i64 2, .int .i64 5, (.string (S [67, 76, 70])), (.string (S [57, 57, 48])), .int .i64 4, .int .i64 1, (.string (S [67, 90, 75])), (.string (S [50, 48, 51])), .int .i64 2, .int .i64 100, (.string (S [68, 75, 75])), (.string (S [50, 48, 56])), .int .i64 2, .int .i64 50, (.string (S [69, 85, 82])), (.string (S [57, 55, 56])), .int .i64 2, .int .i64 1, (.string (S [71, 66, 80])), (.string (S [56, 50, 54])), .int .i64 2, .int .i64 1, (.string (S [72, 85, 70])), (.string (S [51, 52, 56])), .int .i64 2, .int .i64 500, (.string (S [73, 83, 75])), (.string (S [51, 53, 50])), .int .i64 0, .int .i64 1, (.string (S [74, 80, 89])), (.string (S [51, 57, 50])), .int .i64 0, .int .i64 1, (.string (S [75, 82, 87])), (.string (S [52, 49, 48])), .int .i64 0, .int .i64 10, (.string (S [75, 87, 68])), (.string (S [52, 49, 52])), .int .i64 3, .int .i64 5, (.string (S [78, 79, 75])), (.string (S [53, 55, 56])), .int .i64 2, .int .i64 100, (.string (S [78, 90, 68])), (.string (S [53, 53, 52])), .int .i64 2, .int .i64 10, (.string (S [80, 76, 78])), (.string (S [57, 56, 53])), .int .i64 2, .int .i64 1, (.string (S [83, 69, 75])), (.string (S [55, 53, 50])), .int .i64 2, .int .i64 100, (.string (S [84, 78, 68])), (.string (S [55, 56, 56])), .int .i64 3, .int .i64 10, (.string (S [85, 83, 68])), (.string (S [56, 52, 48])), .int .i64 2, .int .i64 1]⟩ 201 (0, 0)) r wv ->
 R (.slice (some ⟨r, 0, none⟩) 20 20) wv
theorem spec_l08Table_ret (h : spec_l08Table w R) : Ret P 174 [] w R := Ret.of_fsem Tryz.func174 rfl (Eq.mp (show _ = fsem P Tryz.f174 (fun k => []) _ R w from by kernel_rfl) h)
def spec_l01Once (c : Option Addr) (n : Int) (w : World) (R : Value -> World -> Prop) : Prop :=
 Calls P 83 ⟨[(.pointer c), .int .i64 n]⟩ w fun e wv =>
 ∃ t7, e = .returned (.int .i64 t7) /\
 R (.bool (decide ((t7 : Int) = 0))) wv
theorem spec_l01Once_ret {c : Option Addr} {n : Int} (h : spec_l01Once c n w R) : Ret P 175 [.pointer c, .int .i64 n] w R := Ret.of_fsem Tryz.func175 rfl (Eq.mp (show _ = fsem P Tryz.f175 (fun k => []) _ R w from by kernel_rfl) h)
def impl_CurKnown (code : ByteArray) (w : World) (R : Value -> World -> Prop) : Prop :=
 Calls P 229 ⟨[.string code]⟩ w fun e wv =>
 ∃ a0 a1 a2 a3 t7, e = .returned (.tuple #[.agg #[.string a0, .string a1, .int .i64 a2, .int .i64 a3], .bool t7]) /\
 ∀ r a4, New wv (.cells ⟨[.string ByteArray.empty, .string ByteArray.empty, .int .i64 0, .int .i64 0]⟩ 252 (0, 0)) r a4 ->
 ∃ wv_2, Stores P 252 ⟨r, 0, none⟩ (.agg #[.string a0, .string a1, .int .i64 a2, .int .i64 a3]) a4 wv_2 /\
 R (.bool t7) wv_2
theorem impl_CurKnown_ret {a : ByteArray} (h : impl_CurKnown a w R) : Ret P 177 [.string a] w R := Ret.of_fsem Tryz.func177 rfl (Eq.mp (show _ = fsem P Tryz.f177 (fun k => []) _ R w from by kernel_rfl) h)
def impl_trim (a0 : Option Addr) (a1 a2 : Nat) (w : World) (R : Value -> World -> Prop) : Prop :=
 ∃ (a3 : Option Addr -> Nat -> Nat -> World -> Prop) (mu : Option Addr -> Nat -> Nat -> World -> Nat), a3 a0 a1 a2 w /\
 ∀ (a4 : Fr) (wv : World) (a5 : Option Addr) (a6 a7 : Nat), a3 a5 a6 a7 wv ->
 ((decide ((0 : Int) < ((a6 : Nat) : Int))) = true ->
 ∃ a8 : Int, a8 = IntKind.wrap .i64 (((a6 : Nat) : Int) - 1) /\ (0 <= (a8 : Int) /\ (a8 : Int) < (a6 : Nat)) /\ ptrS a5 fun ad => ∃ a9, Loads P 3 (ad.add (a8.toNat * 1)) (.int .i64 a9) wv /\ ((decide ((a9 : Int) = 0)) = true ->
 ∃ aa : Int, aa = IntKind.wrap .i64 (((a6 : Nat) : Int) - 1) /\ (0 <= (aa : Int) /\ (aa : Int) <= (a7 : Nat)) /\ a3 (sub a5 0 a7 1) (aa.toNat - 0) (a7 - 0) wv /\ mu (sub a5 0 a7 1) (aa.toNat - 0) (a7 - 0) wv < mu a5 a6 a7 wv) /\
 ((decide ((a9 : Int) = 0)) = false ->
 R (.slice a5 a6 a7) wv)) /\
 ((decide ((0 : Int) < ((a6 : Nat) : Int))) = false ->
 (false = true ->
 ∃ ab : Int, ab = IntKind.wrap .i64 (((a6 : Nat) : Int) - 1) /\ (0 <= (ab : Int) /\ (ab : Int) <= (a7 : Nat)) /\ a3 (sub a5 0 a7 1) (ab.toNat - 0) (a7 - 0) wv /\ mu (sub a5 0 a7 1) (ab.toNat - 0) (a7 - 0) wv < mu a5 a6 a7 wv) /\
 (false = false ->
 R (.slice a5 a6 a7) wv))
theorem impl_trim_ret {a : Option Addr} {a0 a1 : Nat} (h : impl_trim a a0 a1 w R) : Ret P 181 [.slice a a0 a1] w R := Ret.of_fsem Tryz.func181 rfl (Eq.mp (show _ = fsem P Tryz.f181 (fun k => cond (Nat.beq k 2) [(0, .one .slice)] ([])) _ R w from by kernel_rfl) h)
def impl_isScale (scale : Int) (w : World) (R : Value -> World -> Prop) : Prop :=
 ((decide ((0 : Int) <= scale)) = true ->
 R (.bool (decide ((scale : Int) <= 30))) w) /\
 ((decide ((0 : Int) <= scale)) = false ->
 R (.bool false) w)
theorem impl_isScale_ret {a : Int} (h : impl_isScale a w R) : Ret P 182 [.int .i64 a] w R := Ret.of_fsem Tryz.func182 rfl (Eq.mp (show _ = fsem P Tryz.f182 (fun k => []) _ R w from by kernel_rfl) h)
def impl_natCopy (a0 : Option Addr) (a1 a2 : Nat) (w : World) (R : Value -> World -> Prop) : Prop :=
 ∀ r wv, New w (.cells ⟨[]⟩ 3 (0, 0)) r wv ->
 ∃ a3 a4 a5 a6, Appends P [29, 29] [(.slice (some ⟨r, 0, none⟩) 0 0), .slice a0 a1 a2] (.slice a3 a4 a5) wv a6 /\
 R (.slice a3 a4 a5) a6
theorem impl_natCopy_ret {a : Option Addr} {a0 a1 : Nat} (h : impl_natCopy a a0 a1 w R) : Ret P 183 [.slice a a0 a1] w R := Ret.of_fsem Tryz.func183 rfl (Eq.mp (show _ = fsem P Tryz.f183 (fun k => []) _ R w from by kernel_rfl) h)
def impl_Pad (s : ByteArray) (n : Int) (w : World) (R : Value -> World -> Prop) : Prop :=
 ((decide ((n : Int) <= ((s.size : Nat) : Int))) = true ->
 (true = true ->
 R (.string s) w) /\
 (true = false ->
 ∃ a0 : Int, a0 = IntKind.wrap .i64 (n - ((s.size : Nat) : Int)) /\ Calls P 234 ⟨[(.string (S [48])), .int .i64 a0]⟩ w fun e wv =>
 ∃ a1, e = .returned (.string a1) /\
 a1.size + s.size <= 9223372036854775807 /\ ∃ a2 : ByteArray, a2 = a1 ++ s /\ R (.string a2) wv)) /\
 ((decide ((n : Int) <= ((s.size : Nat) : Int))) = false ->
 ((decide ((2000 : Int) < n)) = true ->
 R (.string s) w) /\
 ((decide ((2000 : Int) < n)) = false ->
 ∃ a3 : Int, a3 = IntKind.wrap .i64 (n - ((s.size : Nat) : Int)) /\ Calls P 234 ⟨[(.string (S [48])), .int .i64 a3]⟩ w fun a4 a5 =>
 ∃ a6, a4 = .returned (.string a6) /\
 a6.size + s.size <= 9223372036854775807 /\ ∃ a7 : ByteArray, a7 = a6 ++ s /\ R (.string a7) a5))
theorem impl_Pad_ret {s : ByteArray} {n : Int} (h : impl_Pad s n w R) : Ret P 187 [.string s, .int .i64 n] w R := Ret.of_fsem Tryz.func187 rfl (Eq.mp (show _ = fsem P Tryz.f187 (fun k => []) _ R w from by kernel_rfl) h)
def impl_natText (a0 : Option Addr) (a1 a2 : Nat) (w : World) (R : Value -> World -> Prop) : Prop :=
 ((decide ((((a1 : Nat) : Int) : Int) = 0)) = true ->
 R (.string (S [48])) w) /\
 ((decide ((((a1 : Nat) : Int) : Int) = 0)) = false ->
 ∃ a3 : Int, a3 = IntKind.wrap .i64 (((a1 : Nat) : Int) - 1) /\ (0 <= (a3 : Int) /\ (a3 : Int) < (a1 : Nat)) /\ ptrS a0 fun ad => ∃ a4, Loads P 3 (ad.add (a3.toNat * 1)) (.int .i64 a4) w /\ Calls P 131 ⟨[.int .i64 a4]⟩ w fun e wv =>
 ∃ a5, e = .returned (.string a5) /\
 ∃ a6 : Int, a6 = IntKind.wrap .i64 (((a1 : Nat) : Int) - 2) /\ ∃ (a7 : ByteArray -> Int -> World -> Prop) (mu : ByteArray -> Int -> World -> Nat), a7 a5 a6 wv /\
 ∀ (a8 : Fr) (a9 : World) (text : ByteArray) (i : Int), a7 text i a9 ->
 ((decide ((0 : Int) <= i)) = true ->
 (0 <= (i : Int) /\ (i : Int) < (a1 : Nat)) /\ ptrS a0 fun aa => ∃ ab, Loads P 3 (aa.add (i.toNat * 1)) (.int .i64 ab) a9 /\ Calls P 131 ⟨[.int .i64 ab]⟩ a9 fun ac ae =>
 ∃ af, ac = .returned (.string af) /\
 Calls P 187 ⟨[.string af, .int .i64 9]⟩ ae fun ag ah =>
 ∃ ai, ag = .returned (.string ai) /\
 text.size + ai.size <= 9223372036854775807 /\ ∃ aj : ByteArray, aj = text ++ ai /\ ∃ ak : Int, ak = IntKind.wrap .i64 (i - 1) /\ a7 aj ak ah /\ mu aj ak ah < mu text i a9) /\
 ((decide ((0 : Int) <= i)) = false ->
 R (.string text) a9))
theorem impl_natText_ret {a : Option Addr} {a0 a1 : Nat} (h : impl_natText a a0 a1 w R) : Ret P 188 [.slice a a0 a1] w R := Ret.of_fsem Tryz.func188 rfl (Eq.mp (show _ = fsem P Tryz.f188 (fun k => cond (Nat.beq k 6) [(3, .one .str), (4, .one (.int .i64))] ([])) _ R w from by kernel_rfl) h)
def spec_IntOk (x0 : Bool) (a0 : Option Addr) (a1 a2 : Nat) (w : World) (R : Value -> World -> Prop) : Prop :=
 ∀ r wv, New w (.cells ⟨[.bool x0, .slice a0 a1 a2]⟩ 31 (0, 0)) r wv ->
 ∃ a3 a4 a5, Loads P 29 ((⟨r, 0, none⟩ : Addr).add 1) (.slice a3 a4 a5) wv /\ Calls P 191 ⟨[.slice a3 a4 a5]⟩ wv fun e a6 =>
 ∃ t5, e = .returned (.bool t5) /\
 (t5 = true ->
 ∃ t8, Loads P 4 ((⟨r, 0, none⟩ : Addr).add 0) (.bool t8) a6 /\ ((!t8) = true ->
 R (.bool true) a6) /\
 ((!t8) = false ->
 ∃ a7 a8 a9, Loads P 29 ((⟨r, 0, none⟩ : Addr).add 1) (.slice a7 a8 a9) a6 /\ R (.bool (decide ((0 : Int) < ((a8 : Nat) : Int)))) a6)) /\
 (t5 = false ->
 R (.bool false) a6)
theorem spec_IntOk_ret {x0 : Bool} {a : Option Addr} {a0 a1 : Nat} (h : spec_IntOk x0 a a0 a1 w R) : Ret P 190 [.agg #[.bool x0, .slice a a0 a1]] w R := Ret.of_fsem Tryz.func190 rfl (Eq.mp (show _ = fsem P Tryz.f190 (fun k => []) _ R w from by kernel_rfl) h)
def spec_NatOk (a0 : Option Addr) (a1 a2 : Nat) (w : World) (R : Value -> World -> Prop) : Prop :=
 ∃ (a3 : Int -> World -> Prop) (mu : Int -> World -> Nat), a3 0 w /\
 ∀ (a4 : Fr) (wv : World) (t7 : Int), a3 t7 wv ->
 ((decide ((t7 : Int) < ((a1 : Nat) : Int))) = true ->
 (0 <= (t7 : Int) /\ (t7 : Int) < (a1 : Nat)) /\ ptrS a0 fun ad => ∃ a5, Loads P 3 (ad.add (t7.toNat * 1)) (.int .i64 a5) wv /\ Calls P 157 ⟨[.int .i64 a5, .int .i64 0, .int .i64 999999999]⟩ wv fun e a6 =>
 ∃ a7, e = .returned (.bool a7) /\
 ((!a7) = true ->
 R (.bool false) a6) /\
 ((!a7) = false ->
 ∃ a8 : Int, a8 = IntKind.wrap .i64 (t7 + 1) /\ a3 a8 a6 /\ mu a8 a6 < mu t7 wv)) /\
 ((decide ((t7 : Int) < ((a1 : Nat) : Int))) = false ->
 ((decide ((((a1 : Nat) : Int) : Int) <= 50)) = true ->
 ((decide ((((a1 : Nat) : Int) : Int) = 0)) = true ->
 R (.bool true) wv) /\
 ((decide ((((a1 : Nat) : Int) : Int) = 0)) = false ->
 ∃ a9 : Int, a9 = IntKind.wrap .i64 (((a1 : Nat) : Int) - 1) /\ (0 <= (a9 : Int) /\ (a9 : Int) < (a1 : Nat)) /\ ptrS a0 fun aa => ∃ ab, Loads P 3 (aa.add (a9.toNat * 1)) (.int .i64 ab) wv /\ R (.bool (decide ((ab : Int) ≠ 0))) wv)) /\
 ((decide ((((a1 : Nat) : Int) : Int) <= 50)) = false ->
 R (.bool false) wv))
theorem spec_NatOk_ret {a : Option Addr} {a0 a1 : Nat} (h : spec_NatOk a a0 a1 w R) : Ret P 191 [.slice a a0 a1] w R := Ret.of_fsem Tryz.func191 rfl (Eq.mp (show _ = fsem P Tryz.f191 (fun k => cond (Nat.beq k 3) [(7, .one (.int .i64))] ([])) _ R w from by kernel_rfl) h)
def spec_l02Cmp (a0 : Option Addr) (a1 a2 : Nat) (a3 : Option Addr) (a4 a5 : Nat) (w : World) (R : Value -> World -> Prop) : Prop :=
 ((decide ((((a1 : Nat) : Int) : Int) ≠ ((a4 : Nat) : Int))) = true ->
 ((decide ((((a1 : Nat) : Int) : Int) < ((a4 : Nat) : Int))) = true ->
 R (.int .i64 (-1)) w) /\
 ((decide ((((a1 : Nat) : Int) : Int) < ((a4 : Nat) : Int))) = false ->
 R (.int .i64 1) w)) /\
 ((decide ((((a1 : Nat) : Int) : Int) ≠ ((a4 : Nat) : Int))) = false ->
 ∃ a6 : Int, a6 = IntKind.wrap .i64 (((a1 : Nat) : Int) - 1) /\ ∃ (a7 : Int -> World -> Prop) (mu : Int -> World -> Nat), a7 a6 w /\
 ∀ (a8 : Fr) (wv : World) (i : Int), a7 i wv ->
 ((decide ((0 : Int) <= i)) = true ->
 (0 <= (i : Int) /\ (i : Int) < (a1 : Nat)) /\ ptrS a0 fun ad => ∃ a9, (∀ wv_1, Ext wv.drew wv_1 -> Loads P 3 (ad.add (i.toNat * 1)) (.int .i64 a9) wv_1) /\ (0 <= (i : Int) /\ (i : Int) < (a4 : Nat)) /\ ptrS a3 fun aa => ∃ ab, (∀ wv_2, Ext wv.drew wv_2 -> Loads P 3 (aa.add (i.toNat * 1)) (.int .i64 ab) wv_2) /\ ((decide ((a9 : Int) < ab)) = true ->
 R (.int .i64 (-1)) wv.drew) /\
 ((decide ((a9 : Int) < ab)) = false ->
 (0 <= (i : Int) /\ (i : Int) < (a1 : Nat)) /\ ptrS a0 fun ac => ∃ ae, (∀ wv_3, Ext wv.drew.drew wv_3 -> Loads P 3 (ac.add (i.toNat * 1)) (.int .i64 ae) wv_3) /\ (0 <= (i : Int) /\ (i : Int) < (a4 : Nat)) /\ ptrS a3 fun af => ∃ ag, (∀ wv_4, Ext wv.drew.drew wv_4 -> Loads P 3 (af.add (i.toNat * 1)) (.int .i64 ag) wv_4) /\ ((decide ((ag : Int) < ae)) = true ->
 R (.int .i64 1) wv.drew.drew) /\
 ((decide ((ag : Int) < ae)) = false ->
 ∃ ah : Int, ah = IntKind.wrap .i64 (i - 1) /\ a7 ah wv.drew.drew /\ mu ah wv.drew.drew < mu i wv))) /\
 ((decide ((0 : Int) <= i)) = false ->
 R (.int .i64 0) wv))
theorem spec_l02Cmp_ret {a : Option Addr} {a0 a1 : Nat} {a2 : Option Addr} {a3 a4 : Nat} (h : spec_l02Cmp a a0 a1 a2 a3 a4 w R) : Ret P 192 [.slice a a0 a1, .slice a2 a3 a4] w R := Ret.of_fsem Tryz.func192 rfl (Eq.mp (show _ = fsem P Tryz.f192 (fun k => cond (Nat.beq k 7) [(5, .one (.int .i64))] ([])) _ R w from by kernel_rfl) h)
def spec_BookOpen_j0 (name cur : ByteArray) (r a0 : Nat) (W : World) (R : Value -> World -> Prop) : Prop :=
 ∃ a1 a2 a3, Loads P 89 ⟨r, 0, none⟩ (.agg #[.slice a1 a2 a3]) W /\ Calls P 238 ⟨[.agg #[.slice a1 a2 a3]]⟩ W fun a4 a5 =>
 ∃ a6 a7 a8, a4 = .returned (.agg #[.slice a6 a7 a8]) /\
 ∀ a9 aa, New a5 (.cells ⟨[.slice none 0 0]⟩ 89 (0, 0)) a9 aa ->
 ∃ wv_6, Stores P 89 ⟨a9, 0, none⟩ (.agg #[.slice a6 a7 a8]) aa wv_6 /\
 ∃ (ab : Int -> World -> Prop) (mu : Int -> World -> Nat), ab 0 wv_6 /\
 ∀ (ac : Fr) (ae : World) (k : Int), ab k ae ->
 ∃ af ag ah, Loads P 87 ((⟨a9, 0, none⟩ : Addr).add 0) (.slice af ag ah) ae /\ ((decide ((k : Int) < ((ag : Nat) : Int))) = true ->
 ∃ ai aj ak, Loads P 87 ((⟨a9, 0, none⟩ : Addr).add 0) (.slice ai aj ak) ae /\ (0 <= (k : Int) /\ (k : Int) < (aj : Nat)) /\ ptrS ai fun ad => ∃ al, Loads P 9 ((ad.add (k.toNat * 4)).add 0) (.string al) ae /\ ((Op.bytesLess al.toList name.toList) = true ->
 ∃ am : Int, am = IntKind.wrap .i64 (k + 1) /\ ab am ae /\ mu am ae < mu k ae) /\
 ((Op.bytesLess al.toList name.toList) = false ->
 ∀ an ao, New ae (.cells ⟨[]⟩ 97 (0, 0)) an ao ->
 ∃ ap aq ar, Loads P 87 ((⟨a9, 0, none⟩ : Addr).add 0) (.slice ap aq ar) ao /\ (0 <= (k : Int) /\ (k : Int) <= (ar : Nat)) /\ ∃ au av aw ax, Appends P [87, 87] [(.slice (some ⟨an, 0, none⟩) 0 0), (.slice (sub ap 0 ar 4) (k.toNat - 0) (ar - 0))] (.slice au av aw) ao ax /\
 ∀ ay az, New ax (.cells ⟨[.string name, .string cur, .bool false, .slice none 0 0]⟩ 97 (0, 0)) ay az ->
 ∃ b0 b1 b2 b3, Appends P [87, 87] [.slice au av aw, (.slice (some ⟨ay, 0, none⟩) 1 1)] (.slice b0 b1 b2) az b3 /\
 ∃ b4 b5 b6, Loads P 87 ((⟨a9, 0, none⟩ : Addr).add 0) (.slice b4 b5 b6) b3 /\ (0 <= (k : Int) /\ (k : Int) <= (b5 : Nat)) /\ ∃ b7 b8 b9 ba, Appends P [87, 87] [.slice b0 b1 b2, (.slice (sub b4 k.toNat b6 4) (b5 - k.toNat) (b6 - k.toNat))] (.slice b7 b8 b9) b3 ba /\
 ∀ bb bc, New ba (.cells ⟨[.slice none 0 0]⟩ 89 (0, 0)) bb bc ->
 ∃ wv_14, Stores P 89 ⟨bb, 0, none⟩ (.agg #[.slice b7 b8 b9]) bc wv_14 /\
 ∃ bd be bf, Loads P 89 ⟨bb, 0, none⟩ (.agg #[.slice bd be bf]) wv_14 /\ Calls P 236 ⟨[.agg #[.slice bd be bf]]⟩ wv_14 fun bg bh =>
 ∃ bi, bg = .returned (.bool bi) /\
 ((!bi) = true ->
 ∃ wv_16, Stores P 89 ⟨a0, 0, none⟩ (.agg #[.slice none 0 0]) bh wv_16 /\
 ∃ bj bk bl, Loads P 89 ⟨a0, 0, none⟩ (.agg #[.slice bj bk bl]) wv_16 /\ R (.tuple #[.agg #[.slice bj bk bl], .bool false]) wv_16) /\
 ((!bi) = false ->
 ∃ bm bn bo, Loads P 89 ⟨bb, 0, none⟩ (.agg #[.slice bm bn bo]) bh /\ ∃ wv_17, Stores P 89 ⟨a0, 0, none⟩ (.agg #[.slice bm bn bo]) bh wv_17 /\
 ∃ bp bq br, Loads P 89 ⟨a0, 0, none⟩ (.agg #[.slice bp bq br]) wv_17 /\ R (.tuple #[.agg #[.slice bp bq br], .bool true]) wv_17))) /\
 ((decide ((k : Int) < ((ag : Nat) : Int))) = false ->
 (false = true ->
 ∃ bs : Int, bs = IntKind.wrap .i64 (k + 1) /\ ab bs ae /\ mu bs ae < mu k ae) /\
 (false = false ->
 ∀ bt bu, New ae (.cells ⟨[]⟩ 97 (0, 0)) bt bu ->
 ∃ bv bw bx, Loads P 87 ((⟨a9, 0, none⟩ : Addr).add 0) (.slice bv bw bx) bu /\ (0 <= (k : Int) /\ (k : Int) <= (bx : Nat)) /\ ∃ bz c0 c1 c2, Appends P [87, 87] [(.slice (some ⟨bt, 0, none⟩) 0 0), (.slice (sub bv 0 bx 4) (k.toNat - 0) (bx - 0))] (.slice bz c0 c1) bu c2 /\
 ∀ c3 c4, New c2 (.cells ⟨[.string name, .string cur, .bool false, .slice none 0 0]⟩ 97 (0, 0)) c3 c4 ->
 ∃ c5 c6 c7 c8, Appends P [87, 87] [.slice bz c0 c1, (.slice (some ⟨c3, 0, none⟩) 1 1)] (.slice c5 c6 c7) c4 c8 /\
 ∃ c9 ca cb, Loads P 87 ((⟨a9, 0, none⟩ : Addr).add 0) (.slice c9 ca cb) c8 /\ (0 <= (k : Int) /\ (k : Int) <= (ca : Nat)) /\ ∃ cc cd ce cf, Appends P [87, 87] [.slice c5 c6 c7, (.slice (sub c9 k.toNat cb 4) (ca - k.toNat) (cb - k.toNat))] (.slice cc cd ce) c8 cf /\
 ∀ cg ch, New cf (.cells ⟨[.slice none 0 0]⟩ 89 (0, 0)) cg ch ->
 ∃ wv_24, Stores P 89 ⟨cg, 0, none⟩ (.agg #[.slice cc cd ce]) ch wv_24 /\
 ∃ ci cj ck, Loads P 89 ⟨cg, 0, none⟩ (.agg #[.slice ci cj ck]) wv_24 /\ Calls P 236 ⟨[.agg #[.slice ci cj ck]]⟩ wv_24 fun cl cm =>
 ∃ cn, cl = .returned (.bool cn) /\
 ((!cn) = true ->
 ∃ wv_26, Stores P 89 ⟨a0, 0, none⟩ (.agg #[.slice none 0 0]) cm wv_26 /\
 ∃ co cp cq, Loads P 89 ⟨a0, 0, none⟩ (.agg #[.slice co cp cq]) wv_26 /\ R (.tuple #[.agg #[.slice co cp cq], .bool false]) wv_26) /\
 ((!cn) = false ->
 ∃ cr cs ct, Loads P 89 ⟨cg, 0, none⟩ (.agg #[.slice cr cs ct]) cm /\ ∃ wv_27, Stores P 89 ⟨a0, 0, none⟩ (.agg #[.slice cr cs ct]) cm wv_27 /\
 ∃ cu cv cw, Loads P 89 ⟨a0, 0, none⟩ (.agg #[.slice cu cv cw]) wv_27 /\ R (.tuple #[.agg #[.slice cu cv cw], .bool true]) wv_27)))
def spec_BookOpen (a0 : Option Addr) (a1 a2 : Nat) (name cur : ByteArray) (w : World) (R : Value -> World -> Prop) : Prop :=
 ∀ r wv, New w (.cells ⟨[.slice a0 a1 a2]⟩ 89 (0, 0)) r wv ->
 ∀ a3 a4, New wv (.cells ⟨[.slice none 0 0]⟩ 89 (0, 0)) a3 a4 ->
 ∃ a5 a6 a7, Loads P 89 ⟨r, 0, none⟩ (.agg #[.slice a5 a6 a7]) a4 /\ Calls P 236 ⟨[.agg #[.slice a5 a6 a7]]⟩ a4 fun e a8 =>
 ∃ a9, e = .returned (.bool a9) /\
 ((!a9) = true ->
 (true = true ->
 ∃ wv_3, Stores P 89 ⟨a3, 0, none⟩ (.agg #[.slice none 0 0]) a8 wv_3 /\
 ∃ aa ab ac, Loads P 89 ⟨a3, 0, none⟩ (.agg #[.slice aa ab ac]) wv_3 /\ R (.tuple #[.agg #[.slice aa ab ac], .bool false]) wv_3) /\
 (true = false ->
 spec_BookOpen_j0 name cur r a3 a8 R)) /\
 ((!a9) = false ->
 ∃ ae af ag, Loads P 89 ⟨r, 0, none⟩ (.agg #[.slice ae af ag]) a8 /\ Calls P 237 ⟨[.agg #[.slice ae af ag], .string name]⟩ a8 fun ah ai =>
 ∃ aj, ah = .returned (.int .i64 aj) /\
 ((decide ((0 : Int) <= aj)) = true ->
 ∃ wv_29, Stores P 89 ⟨a3, 0, none⟩ (.agg #[.slice none 0 0]) ai wv_29 /\
 ∃ ak al am, Loads P 89 ⟨a3, 0, none⟩ (.agg #[.slice ak al am]) wv_29 /\ R (.tuple #[.agg #[.slice ak al am], .bool false]) wv_29) /\
 ((decide ((0 : Int) <= aj)) = false ->
 spec_BookOpen_j0 name cur r a3 ai R))
theorem spec_BookOpen_ret {a : Option Addr} {a0 a1 : Nat} {a2 a3 : ByteArray} (h : spec_BookOpen a a0 a1 a2 a3 w R) : Ret P 197 [.agg #[.slice a a0 a1], .string a2, .string a3] w R := Ret.of_fsem Tryz.func197 rfl (Eq.mp (show _ = fsem P Tryz.f197 (fun k => cond (Nat.beq k 6) [(9, .one (.int .i64))] ([])) _ R w from by kernel_rfl) h)
def spec_BookPost_j0 (r a0 a1 : Nat) (a2 : Int) (W : World) (R : Value -> World -> Prop) : Prop :=
 ∃ a3 a4 a5, (∀ wv_6, Ext W.drew wv_6 -> Loads P 87 ((⟨r, 0, none⟩ : Addr).add 0) (.slice a3 a4 a5) wv_6) /\ (0 <= (a2 : Int) /\ (a2 : Int) < (a4 : Nat)) /\ ptrS a3 fun ad => ∃ a6 a7 a8 a9 aa, (∀ wv_7, Ext W.drew wv_7 -> Loads P 33 ((ad.add (a2.toNat * 4)).add 1) (.agg #[.string a6, .bool a7, .slice a8 a9 aa]) wv_7) /\ ∃ ab ac ae af ag, (∀ wv_8, Ext W.drew wv_8 -> Loads P 33 ⟨a0, 0, none⟩ (.agg #[.string ab, .bool ac, .slice ae af ag]) wv_8) /\ ∀ (ss : List (Option Nat)) (ah : World), Fl [.cells ⟨[.string ByteArray.empty, .bool false, .slice none 0 0]⟩ 33 (0, 0)] [none] W.drew ss ah ->
 Calls P 239 ⟨[.agg #[.string a6, .bool a7, .slice a8 a9 aa], .agg #[.string ab, .bool ac, .slice ae af ag]]⟩ ah fun ai aj =>
 ∃ ak al am an ao ap, ai = .returned (.tuple #[.agg #[.string ak, .bool al, .slice am an ao], .bool ap]) /\
 ∀ (ss_1 : List (Option Nat)) (aq : World) (ar : Nat), Fl [.cells ⟨[.string ByteArray.empty, .bool false, .slice none 0 0]⟩ 33 (0, 0)] ss aj ss_1 aq -> ss_1[0]? = some (some ar) ->
 ∃ wv_12, Stores P 33 ⟨ar, 0, none⟩ (.agg #[.string ak, .bool al, .slice am an ao]) aq wv_12 /\
 ((!ap) = true ->
 ∃ wv_13, Stores P 89 ⟨a1, 0, none⟩ (.agg #[.slice none 0 0]) wv_12 wv_13 /\
 ∃ au av aw, Loads P 89 ⟨a1, 0, none⟩ (.agg #[.slice au av aw]) wv_13 /\ R (.tuple #[.agg #[.slice au av aw], .bool false]) wv_13) /\
 ((!ap) = false ->
 ∃ ax ay az, Loads P 89 ⟨r, 0, none⟩ (.agg #[.slice ax ay az]) wv_12 /\ Calls P 238 ⟨[.agg #[.slice ax ay az]]⟩ wv_12 fun b0 b1 =>
 ∃ b2 b3 b4, b0 = .returned (.agg #[.slice b2 b3 b4]) /\
 ∀ b5 b6, New b1 (.cells ⟨[.slice none 0 0]⟩ 89 (0, 0)) b5 b6 ->
 ∃ wv_16, Stores P 89 ⟨b5, 0, none⟩ (.agg #[.slice b2 b3 b4]) b6 wv_16 /\
 ∃ b7 b8 b9, Loads P 87 ((⟨b5, 0, none⟩ : Addr).add 0) (.slice b7 b8 b9) wv_16 /\ ∃ ba bb bc bd be, Loads P 33 ⟨ar, 0, none⟩ (.agg #[.string ba, .bool bb, .slice bc bd be]) wv_16 /\ (0 <= (a2 : Int) /\ (a2 : Int) < (b8 : Nat)) /\ ptrS b7 fun bf => ∃ wv_17, Stores P 33 ((bf.add (a2.toNat * 4)).add 1) (.agg #[.string ba, .bool bb, .slice bc bd be]) wv_16 wv_17 /\
 ∃ bg bh bi, Loads P 89 ⟨b5, 0, none⟩ (.agg #[.slice bg bh bi]) wv_17 /\ ∃ wv_18, Stores P 89 ⟨a1, 0, none⟩ (.agg #[.slice bg bh bi]) wv_17 wv_18 /\
 ∃ bj bk bl, Loads P 89 ⟨a1, 0, none⟩ (.agg #[.slice bj bk bl]) wv_18 /\ R (.tuple #[.agg #[.slice bj bk bl], .bool true]) wv_18)
def spec_BookPost (a0 : Option Addr) (a1 a2 : Nat) (name m0 : ByteArray) (m1 : Bool) (a3 : Option Addr) (a4 a5 : Nat) (w : World) (R : Value -> World -> Prop) : Prop :=
 ∀ r wv, New w (.cells ⟨[.slice a0 a1 a2]⟩ 89 (0, 0)) r wv ->
 ∀ a6 a7, New wv (.cells ⟨[.string m0, .bool m1, .slice a3 a4 a5]⟩ 33 (0, 0)) a6 a7 ->
 ∀ a8 a9, New a7 (.cells ⟨[.slice none 0 0]⟩ 89 (0, 0)) a8 a9 ->
 ∃ aa ab ac, Loads P 89 ⟨r, 0, none⟩ (.agg #[.slice aa ab ac]) a9 /\ Calls P 237 ⟨[.agg #[.slice aa ab ac], .string name]⟩ a9 fun e ae =>
 ∃ af, e = .returned (.int .i64 af) /\
 ∃ ag ah ai, Loads P 89 ⟨r, 0, none⟩ (.agg #[.slice ag ah ai]) ae /\ Calls P 236 ⟨[.agg #[.slice ag ah ai]]⟩ ae fun aj ak =>
 ∃ al, aj = .returned (.bool al) /\
 ((!al) = true ->
 (true = true ->
 ∃ wv_5, Stores P 89 ⟨a8, 0, none⟩ (.agg #[.slice none 0 0]) ak wv_5 /\
 ∃ am an ao, Loads P 89 ⟨a8, 0, none⟩ (.agg #[.slice am an ao]) wv_5 /\ R (.tuple #[.agg #[.slice am an ao], .bool false]) wv_5) /\
 (true = false ->
 spec_BookPost_j0 r a6 a8 af ak R)) /\
 ((!al) = false ->
 ((decide ((af : Int) < 0)) = true ->
 ∃ wv_19, Stores P 89 ⟨a8, 0, none⟩ (.agg #[.slice none 0 0]) ak wv_19 /\
 ∃ ap aq ar, Loads P 89 ⟨a8, 0, none⟩ (.agg #[.slice ap aq ar]) wv_19 /\ R (.tuple #[.agg #[.slice ap aq ar], .bool false]) wv_19) /\
 ((decide ((af : Int) < 0)) = false ->
 spec_BookPost_j0 r a6 a8 af ak R))
theorem spec_BookPost_ret {a : Option Addr} {a0 a1 : Nat} {a2 m0 : ByteArray} {m1 : Bool} {a3 : Option Addr} {a4 a5 : Nat} (h : spec_BookPost a a0 a1 a2 m0 m1 a3 a4 a5 w R) : Ret P 198 [.agg #[.slice a a0 a1], .string a2, .agg #[.string m0, .bool m1, .slice a3 a4 a5]] w R := Ret.of_fsem Tryz.func198 rfl (Eq.mp (show _ = fsem P Tryz.f198 (fun k => []) _ R w from by kernel_rfl) h)
end Go.Proofs.YtbgokfhcgcoipaaGreatDoor
namespace Go.Proofs.YtbgokfhcgcoipaaGreatDoor
variable {w : World} {R : Value -> World -> Prop}
open Go Go.Proofs.YtbgokfhcgcoipaaGreatDoor.Sx
set_option maxRecDepth 100000
def impl_bookCopy (a0 : Option Addr) (a1 a2 : Nat) (w : World) (R : Value -> World -> Prop) : Prop :=
 ∀ r wv, New w (.cells ⟨[.slice a0 a1 a2]⟩ 89 (0, 0)) r wv ->
 ∀ a3 a4, New wv (.cells ⟨[.slice none 0 0]⟩ 89 (0, 0)) a3 a4 ->
 ∃ a5 a6 a7, Loads P 87 ((⟨r, 0, none⟩ : Addr).add 0) (.slice a5 a6 a7) a4 /\ ∃ t9 : Int, t9 = IntKind.wrap .i64 (((a6 : Nat) : Int) + 1) /\ (0 <= (0 : Int) /\ (0 : Int) <= t9 /\ ((64 : Nat) : Int) * t9 <= 281474976710656) /\
 ∀ a8 a9, New a4 (.cells ⟨zeroRow (.agg #[.string ByteArray.empty, .string ByteArray.empty, .bool false, .slice none 0 0]) (t9.toNat * 4)⟩ 97 (0, 0)) a8 a9 ->
 ∀ aa ab, New a9 (.cells ⟨[.slice none 0 0]⟩ 89 (0, 0)) aa ab ->
 ∃ wv_4, Stores P 89 ⟨aa, 0, none⟩ (.agg #[(.slice (some ⟨a8, 0, none⟩) 0 t9.toNat)]) ab wv_4 /\
 ∃ ac ae af, Loads P 87 ((⟨r, 0, none⟩ : Addr).add 0) (.slice ac ae af) wv_4 /\ ∃ (ag : Int -> World -> Prop) (mu : Int -> World -> Nat), ag 0 wv_4 /\
 ∀ (ah : Fr) (ai : World) (aj : Int), ag aj ai ->
 ((decide ((aj : Int) < ((ae : Nat) : Int))) = true ->
 (0 <= (aj : Int) /\ (aj : Int) < (ae : Nat)) /\ ptrS ac fun ad => ∃ ak al am an ao ap, Loads P 97 (ad.add (aj.toNat * 4)) (.agg #[.string ak, .string al, .bool am, .slice an ao ap]) ai /\ ∀ aq ar, New ai (.cells ⟨[.string ByteArray.empty, .string ByteArray.empty, .bool false, .slice none 0 0]⟩ 97 (0, 0)) aq ar ->
 ∃ wv_7, Stores P 97 ⟨aq, 0, none⟩ (.agg #[.string ak, .string al, .bool am, .slice an ao ap]) ar wv_7 /\
 ∃ au av aw, (∀ wv_8, Ext wv_7.drew wv_8 -> Loads P 87 ((⟨aa, 0, none⟩ : Addr).add 0) (.slice au av aw) wv_8) /\ ∃ ax, (∀ wv_9, Ext wv_7.drew wv_9 -> Loads P 9 ((⟨aq, 0, none⟩ : Addr).add 0) (.string ax) wv_9) /\ ∃ ay az b0 b1 b2, (∀ wv_10, Ext wv_7.drew wv_10 -> Loads P 33 ((⟨aq, 0, none⟩ : Addr).add 1) (.agg #[.string ay, .bool az, .slice b0 b1 b2]) wv_10) /\ Calls P 88 ⟨[.agg #[.string ay, .bool az, .slice b0 b1 b2]]⟩ wv_7.drew fun e b3 =>
 ∃ b4 b5 b6 b7 b8, e = .returned (.agg #[.string b4, .bool b5, .slice b6 b7 b8]) /\
 Ext wv_7.drew b3 /\ ∀ b9 ba, New b3 (.cells ⟨[.string ax, .string b4, .bool b5, .slice b6 b7 b8]⟩ 97 (0, 0)) b9 ba ->
 Ext b3 ba /\ ∃ bb bc bd be, Appends P [87, 87] [.slice au av aw, (.slice (some ⟨b9, 0, none⟩) 1 1)] (.slice bb bc bd) ba be /\
 ∃ wv_14, Stores P 87 ((⟨aa, 0, none⟩ : Addr).add 0) (.slice bb bc bd) be wv_14 /\
 ∃ bf : Int, bf = IntKind.wrap .i64 (aj + 1) /\ ag bf wv_14 /\ mu bf wv_14 < mu aj ai) /\
 ((decide ((aj : Int) < ((ae : Nat) : Int))) = false ->
 ∃ bg bh bi, Loads P 89 ⟨aa, 0, none⟩ (.agg #[.slice bg bh bi]) ai /\ ∃ wv_15, Stores P 89 ⟨a3, 0, none⟩ (.agg #[.slice bg bh bi]) ai wv_15 /\
 ∃ bj bk bl, Loads P 89 ⟨a3, 0, none⟩ (.agg #[.slice bj bk bl]) wv_15 /\ R (.agg #[.slice bj bk bl]) wv_15)
theorem impl_bookCopy_ret {a : Option Addr} {a0 a1 : Nat} (h : impl_bookCopy a a0 a1 w R) : Ret P 199 [.agg #[.slice a a0 a1]] w R := Ret.of_fsem Tryz.func199 rfl (Eq.mp (show _ = fsem P Tryz.f199 (fun k => cond (Nat.beq k 4) [(15, .one (.int .i64))] ([])) _ R w from by kernel_rfl) h)
def impl_isLower (c : Int) (w : World) (R : Value -> World -> Prop) : Prop :=
 ((decide ((97 : Int) <= c)) = true ->
 R (.bool (decide ((c : Int) <= 122))) w) /\
 ((decide ((97 : Int) <= c)) = false ->
 R (.bool false) w)
theorem impl_isLower_ret {c : Int} (h : impl_isLower c w R) : Ret P 205 [.int .u8 c] w R := Ret.of_fsem Tryz.func205 rfl (Eq.mp (show _ = fsem P Tryz.f205 (fun k => []) _ R w from by kernel_rfl) h)
def impl_isDigit (c : Int) (w : World) (R : Value -> World -> Prop) : Prop :=
 ((decide ((48 : Int) <= c)) = true ->
 R (.bool (decide ((c : Int) <= 57))) w) /\
 ((decide ((48 : Int) <= c)) = false ->
 R (.bool false) w)
theorem impl_isDigit_ret {c : Int} (h : impl_isDigit c w R) : Ret P 206 [.int .u8 c] w R := Ret.of_fsem Tryz.func206 rfl (Eq.mp (show _ = fsem P Tryz.f206 (fun k => []) _ R w from by kernel_rfl) h)
def spec_MoneyNeg (m0 : ByteArray) (m1 : Bool) (a0 : Option Addr) (a1 a2 : Nat) (w : World) (R : Value -> World -> Prop) : Prop :=
 ∀ r wv, New w (.cells ⟨[.string m0, .bool m1, .slice a0 a1 a2]⟩ 33 (0, 0)) r wv ->
 ∀ a3 a4, New wv (.cells ⟨[.string ByteArray.empty, .bool false, .slice none 0 0]⟩ 33 (0, 0)) a3 a4 ->
 ∃ a5 a6 a7 a8 a9, Loads P 33 ⟨r, 0, none⟩ (.agg #[.string a5, .bool a6, .slice a7 a8 a9]) a4 /\ Calls P 254 ⟨[.agg #[.string a5, .bool a6, .slice a7 a8 a9]]⟩ a4 fun e aa =>
 ∃ t5, e = .returned (.bool t5) /\
 ((!t5) = true ->
 ∃ wv_3, Stores P 33 ⟨a3, 0, none⟩ (.agg #[.string ByteArray.empty, .bool false, .slice none 0 0]) aa wv_3 /\
 ∃ r0 r1 ab ac ae, Loads P 33 ⟨a3, 0, none⟩ (.agg #[.string r0, .bool r1, .slice ab ac ae]) wv_3 /\ R (.tuple #[.agg #[.string r0, .bool r1, .slice ab ac ae], .bool false]) wv_3) /\
 ((!t5) = false ->
 ∃ t9, (∀ wv_4, Ext aa.drew wv_4 -> Loads P 9 ((⟨r, 0, none⟩ : Addr).add 0) (.string t9) wv_4) /\ ∃ af ag ah ai, (∀ wv_5, Ext aa.drew wv_5 -> Loads P 31 ((⟨r, 0, none⟩ : Addr).add 1) (.agg #[.bool af, .slice ag ah ai]) wv_5) /\ Calls P 256 ⟨[.agg #[.bool af, .slice ag ah ai]]⟩ aa.drew fun aj ak =>
 ∃ al am an ao, aj = .returned (.agg #[.bool al, .slice am an ao]) /\
 Ext aa.drew ak /\ Calls P 255 ⟨[.string t9, .agg #[.bool al, .slice am an ao]]⟩ ak fun ap aq =>
 ∃ ar au av aw ax ay, ap = .returned (.tuple #[.agg #[.string ar, .bool au, .slice av aw ax], .bool ay]) /\
 ∃ wv_8, Stores P 33 ⟨a3, 0, none⟩ (.agg #[.string ar, .bool au, .slice av aw ax]) aq wv_8 /\
 ∃ r0_1 r1_1 az b0 b1, Loads P 33 ⟨a3, 0, none⟩ (.agg #[.string r0_1, .bool r1_1, .slice az b0 b1]) wv_8 /\ R (.tuple #[.agg #[.string r0_1, .bool r1_1, .slice az b0 b1], .bool ay]) wv_8)
theorem spec_MoneyNeg_ret {m0 : ByteArray} {m1 : Bool} {a : Option Addr} {a0 a1 : Nat} (h : spec_MoneyNeg m0 m1 a a0 a1 w R) : Ret P 207 [.agg #[.string m0, .bool m1, .slice a a0 a1]] w R := Ret.of_fsem Tryz.func207 rfl (Eq.mp (show _ = fsem P Tryz.f207 (fun k => []) _ R w from by kernel_rfl) h)
def impl_legSums_1 (a0 : ByteArray) (a1 : Bool) (a2 : Option Addr) (a3 a4 : Nat) (b0 : ByteArray) (b1 : Bool) (a5 : Option Addr) (a6 a7 : Nat) (w : World) (R : Value -> World -> Prop) : Prop :=
 ∀ r wv, New w (.cells ⟨[.string a0, .bool a1, .slice a2 a3 a4]⟩ 33 (0, 0)) r wv ->
 ∀ a8 a9, New wv (.cells ⟨[.string b0, .bool b1, .slice a5 a6 a7]⟩ 33 (0, 0)) a8 a9 ->
 ∃ t6, Loads P 9 ((⟨r, 0, none⟩ : Addr).add 0) (.string t6) a9 /\ ∃ t8, Loads P 9 ((⟨a8, 0, none⟩ : Addr).add 0) (.string t8) a9 /\ Calls P 210 ⟨[.string t6, .string t8]⟩ a9 fun e aa =>
 ∃ t9, e = .returned (.int .i64 t9) /\
 R (.int .i64 t9) aa
theorem impl_legSums_1_ret {a0 : ByteArray} {a1 : Bool} {a : Option Addr} {a2 a3 : Nat} {b0 : ByteArray} {b1 : Bool} {a4 : Option Addr} {a5 a6 : Nat} (h : impl_legSums_1 a0 a1 a a2 a3 b0 b1 a4 a5 a6 w R) : Ret P 209 [.agg #[.string a0, .bool a1, .slice a a2 a3], .agg #[.string b0, .bool b1, .slice a4 a5 a6]] w R := Ret.of_fsem Tryz.func209 rfl (Eq.mp (show _ = fsem P Tryz.f209 (fun k => []) _ R w from by kernel_rfl) h)
def cmp_Compare_string (x y : ByteArray) (w : World) (R : Value -> World -> Prop) : Prop :=
 Calls P 259 ⟨[.string x]⟩ w fun e wv =>
 ∃ t8, e = .returned (.bool t8) /\
 Calls P 259 ⟨[.string y]⟩ wv fun a0 a1 =>
 ∃ a2, a0 = .returned (.bool a2) /\
 (t8 = true ->
 (a2 = true ->
 R (.int .i64 0) a1) /\
 (a2 = false ->
 R (.int .i64 (-1)) a1)) /\
 (t8 = false ->
 (a2 = true ->
 R (.int .i64 1) a1) /\
 (a2 = false ->
 ((Op.bytesLess x.toList y.toList) = true ->
 R (.int .i64 (-1)) a1) /\
 ((Op.bytesLess x.toList y.toList) = false ->
 ((!(Op.bytesLess x.toList y.toList || decide (x = y))) = true ->
 R (.int .i64 1) a1) /\
 ((!(Op.bytesLess x.toList y.toList || decide (x = y))) = false ->
 R (.int .i64 0) a1))))
theorem cmp_Compare_string_ret {x y : ByteArray} (h : cmp_Compare_string x y w R) : Ret P 210 [.string x, .string y] w R := Ret.of_fsem Tryz.func210 rfl (Eq.mp (show _ = fsem P Tryz.f210 (fun k => []) _ R w from by kernel_rfl) h)
def impl_ordered_impl_Money_at_j0 (o : Option Addr) (a0 : Int) (W : World) (R : Value -> World -> Prop) : Prop :=
 ptrS o fun a1 => ∃ a2 a3 a4, Loads P 114 (a1.add 0) (.slice a2 a3 a4) W /\ (0 <= (a0 : Int) /\ (a0 : Int) < (a3 : Nat)) /\ ptrS a2 fun a5 => R (.pointer (some (a5.add (a0.toNat * 3)))) W
def impl_ordered_impl_Money_at (o : Option Addr) (x0 : ByteArray) (x1 : Bool) (a0 : Option Addr) (a1 a2 : Nat) (w : World) (R : Value -> World -> Prop) : Prop :=
 ∀ r wv, New w (.cells ⟨[.string x0, .bool x1, .slice a0 a1 a2]⟩ 33 (0, 0)) r wv ->
 ptrS o fun ad => ∃ a3 a4 a5, (∀ wv_1, Ext wv.drew wv_1 -> Loads P 114 (ad.add 0) (.slice a3 a4 a5) wv_1) /\ ∃ a6 a7 a8 a9 aa, (∀ wv_2, Ext wv.drew wv_2 -> Loads P 33 ⟨r, 0, none⟩ (.agg #[.string a6, .bool a7, .slice a8 a9 aa]) wv_2) /\ ptrS o fun ab => ∃ (ac : Value), (∀ wv_3, Ext wv.drew wv_3 -> Loads P 239 (ab.add 1) ac wv_3) /\ Calls P 260 ⟨[.slice a3 a4 a5, .agg #[.string a6, .bool a7, .slice a8 a9 aa], ac]⟩ wv.drew fun e ae =>
 ∃ af ag, e = .returned (.tuple #[.int .i64 af, .bool ag]) /\
 ((!ag) = true ->
 ptrS o fun ah => ∃ ai aj ak, (∀ wv_5, Ext ae.drew wv_5 -> Loads P 114 (ah.add 0) (.slice ai aj ak) wv_5) /\ ∃ al am an ao ap, (∀ wv_6, Ext ae.drew wv_6 -> Loads P 33 ⟨r, 0, none⟩ (.agg #[.string al, .bool am, .slice an ao ap]) wv_6) /\ ∀ aq ar, New ae.drew (.cells ⟨[.string al, .bool am, .slice an ao ap]⟩ 33 (0, 0)) aq ar ->
 Ext ae.drew ar /\ Calls P 261 ⟨[.slice ai aj ak, .int .i64 af, (.slice (some ⟨aq, 0, none⟩) 1 1)]⟩ ar fun au av =>
 ∃ aw ax ay, au = .returned (.slice aw ax ay) /\
 ptrS o fun az => ∃ wv_9, Stores P 114 (az.add 0) (.slice aw ax ay) av wv_9 /\
 impl_ordered_impl_Money_at_j0 o af wv_9 R) /\
 ((!ag) = false ->
 impl_ordered_impl_Money_at_j0 o af ae R)
theorem impl_ordered_impl_Money_at_ret {o : Option Addr} {x0 : ByteArray} {x1 : Bool} {a : Option Addr} {a0 a1 : Nat} (h : impl_ordered_impl_Money_at o x0 x1 a a0 a1 w R) : Ret P 211 [.pointer o, .agg #[.string x0, .bool x1, .slice a a0 a1]] w R := Ret.of_fsem Tryz.func211 rfl (Eq.mp (show _ = fsem P Tryz.f211 (fun k => []) _ R w from by kernel_rfl) h)
def spec_l01All (s : ByteArray) (lo hi : Int) (low high : Int) (w : World) (R : Value -> World -> Prop) : Prop :=
 ∃ (a0 : Int -> World -> Prop) (mu : Int -> World -> Nat), a0 0 w /\
 ∀ (a1 : Fr) (wv : World) (i : Int), a0 i wv ->
 ((decide ((i : Int) < ((s.size : Nat) : Int))) = true ->
 0 <= (i : Int) /\ ∃ b : UInt8, s[i.toNat]? = some b /\ ((decide ((((b.toNat : Nat) : Int) : Int) < lo)) = true ->
 (true = true ->
 0 <= (i : Int) /\ ∃ a2 : UInt8, s[i.toNat]? = some a2 /\ ((decide ((((a2.toNat : Nat) : Int) : Int) < low)) = true ->
 (true = true ->
 R (.bool false) wv) /\
 (true = false ->
 ∃ a3 : Int, a3 = IntKind.wrap .i64 (i + 1) /\ a0 a3 wv /\ mu a3 wv < mu i wv)) /\
 ((decide ((((a2.toNat : Nat) : Int) : Int) < low)) = false ->
 0 <= (i : Int) /\ ∃ a4 : UInt8, s[i.toNat]? = some a4 /\ ((decide ((high : Int) < ((a4.toNat : Nat) : Int))) = true ->
 R (.bool false) wv) /\
 ((decide ((high : Int) < ((a4.toNat : Nat) : Int))) = false ->
 ∃ a5 : Int, a5 = IntKind.wrap .i64 (i + 1) /\ a0 a5 wv /\ mu a5 wv < mu i wv))) /\
 (true = false ->
 (false = true ->
 R (.bool false) wv) /\
 (false = false ->
 ∃ a6 : Int, a6 = IntKind.wrap .i64 (i + 1) /\ a0 a6 wv /\ mu a6 wv < mu i wv))) /\
 ((decide ((((b.toNat : Nat) : Int) : Int) < lo)) = false ->
 0 <= (i : Int) /\ ∃ a7 : UInt8, s[i.toNat]? = some a7 /\ ((decide ((hi : Int) < ((a7.toNat : Nat) : Int))) = true ->
 0 <= (i : Int) /\ ∃ a8 : UInt8, s[i.toNat]? = some a8 /\ ((decide ((((a8.toNat : Nat) : Int) : Int) < low)) = true ->
 (true = true ->
 R (.bool false) wv) /\
 (true = false ->
 ∃ a9 : Int, a9 = IntKind.wrap .i64 (i + 1) /\ a0 a9 wv /\ mu a9 wv < mu i wv)) /\
 ((decide ((((a8.toNat : Nat) : Int) : Int) < low)) = false ->
 0 <= (i : Int) /\ ∃ aa : UInt8, s[i.toNat]? = some aa /\ ((decide ((high : Int) < ((aa.toNat : Nat) : Int))) = true ->
 R (.bool false) wv) /\
 ((decide ((high : Int) < ((aa.toNat : Nat) : Int))) = false ->
 ∃ ab : Int, ab = IntKind.wrap .i64 (i + 1) /\ a0 ab wv /\ mu ab wv < mu i wv))) /\
 ((decide ((hi : Int) < ((a7.toNat : Nat) : Int))) = false ->
 (false = true ->
 R (.bool false) wv) /\
 (false = false ->
 ∃ ac : Int, ac = IntKind.wrap .i64 (i + 1) /\ a0 ac wv /\ mu ac wv < mu i wv)))) /\
 ((decide ((i : Int) < ((s.size : Nat) : Int))) = false ->
 R (.bool (decide ((0 : Int) < ((s.size : Nat) : Int)))) wv)
theorem spec_l01All_ret {s : ByteArray} {lo hi : Int} {a a0 : Int} (h : spec_l01All s lo hi a a0 w R) : Ret P 212 [.string s, .int .u8 lo, .int .u8 hi, .int .u8 a, .int .u8 a0] w R := Ret.of_fsem Tryz.func212 rfl (Eq.mp (show _ = fsem P Tryz.f212 (fun k => cond (Nat.beq k 3) [(11, .one (.int .i64))] ([])) _ R w from by kernel_rfl) h)
def spec_l02Cap (a0 : Option Addr) (a1 a2 : Nat) (w : World) (R : Value -> World -> Prop) : Prop :=
 Calls P 230 ⟨[.slice a0 a1 a2]⟩ w fun e wv =>
 ∃ a3 a4 a5, e = .returned (.slice a3 a4 a5) /\
 ((decide ((50 : Int) < ((a4 : Nat) : Int))) = true ->
 R (.slice none 0 0) wv) /\
 ((decide ((50 : Int) < ((a4 : Nat) : Int))) = false ->
 R (.slice a3 a4 a5) wv)
theorem spec_l02Cap_ret {a : Option Addr} {a0 a1 : Nat} (h : spec_l02Cap a a0 a1 w R) : Ret P 225 [.slice a a0 a1] w R := Ret.of_fsem Tryz.func225 rfl (Eq.mp (show _ = fsem P Tryz.f225 (fun k => []) _ R w from by kernel_rfl) h)
def impl_currencyOf (code : ByteArray) (w : World) (R : Value -> World -> Prop) : Prop :=
 ∀ r wv, New w (.cells ⟨[.string ByteArray.empty, .string ByteArray.empty, .int .i64 0, .int .i64 0]⟩ 252 (0, 0)) r wv ->
 ∃ (t6 : Value), Loads P 283 ⟨0, 0, none⟩ t6 wv /\ ∃ (a0 : Int -> World -> Prop) (mu : Int -> World -> Nat), a0 0 wv /\
 ∀ (a1 : Fr) (a2 : World) (t7 : Int), a0 t7 a2 ->
 ((decide ((t7 : Int) < 20)) = true ->
 indexS P 283 t6 (.int .i64 t7) fun (el : Value) => ∀ a3 a4, New a2 (.cells ⟨[.string ByteArray.empty, .string ByteArray.empty, .int .i64 0, .int .i64 0]⟩ 252 (0, 0)) a3 a4 ->
 ∃ wv_3, Stores P 252 ⟨a3, 0, none⟩ el a4 wv_3 /\
 ∃ a5, Loads P 9 ((⟨a3, 0, none⟩ : Addr).add 0) (.string a5) wv_3 /\ ((decide (a5 = code)) = true ->
 ∃ a6 a7 a8 a9, Loads P 252 ⟨a3, 0, none⟩ (.agg #[.string a6, .string a7, .int .i64 a8, .int .i64 a9]) wv_3 /\ ∃ wv_4, Stores P 252 ⟨r, 0, none⟩ (.agg #[.string a6, .string a7, .int .i64 a8, .int .i64 a9]) wv_3 wv_4 /\
 ∃ r0 r1 r2 r3, Loads P 252 ⟨r, 0, none⟩ (.agg #[.string r0, .string r1, .int .i64 r2, .int .i64 r3]) wv_4 /\ R (.tuple #[.agg #[.string r0, .string r1, .int .i64 r2, .int .i64 r3], .bool true]) wv_4) /\
 ((decide (a5 = code)) = false ->
 ∃ aa : Int, aa = IntKind.wrap .i64 (t7 + 1) /\ a0 aa wv_3 /\ mu aa wv_3 < mu t7 a2)) /\
 ((decide ((t7 : Int) < 20)) = false ->
 ∃ wv_5, Stores P 252 ⟨r, 0, none⟩ (.agg #[.string ByteArray.empty, .string ByteArray.empty, .int .i64 0, .int .i64 0]) a2 wv_5 /\
 ∃ r0_1 r1_1 r2_1 r3_1, Loads P 252 ⟨r, 0, none⟩ (.agg #[.string r0_1, .string r1_1, .int .i64 r2_1, .int .i64 r3_1]) wv_5 /\ R (.tuple #[.agg #[.string r0_1, .string r1_1, .int .i64 r2_1, .int .i64 r3_1], .bool false]) wv_5)
theorem impl_currencyOf_ret {a : ByteArray} (h : impl_currencyOf a w R) : Ret P 229 [.string a] w R := Ret.of_fsem Tryz.func229 rfl (Eq.mp (show _ = fsem P Tryz.f229 (fun k => cond (Nat.beq k 3) [(7, .one (.int .i64))] ([])) _ R w from by kernel_rfl) h)
def spec_l02Trim (a0 : Option Addr) (a1 a2 : Nat) (w : World) (R : Value -> World -> Prop) : Prop :=
 ∃ (a3 : Int -> World -> Prop) (mu : Int -> World -> Nat), a3 ((a1 : Nat) : Int) w /\
 ∀ (a4 : Fr) (wv : World) (n : Int), a3 n wv ->
 ((decide ((0 : Int) < n)) = true ->
 ∃ a5 : Int, a5 = IntKind.wrap .i64 (n - 1) /\ (0 <= (a5 : Int) /\ (a5 : Int) < (a1 : Nat)) /\ ptrS a0 fun ad => ∃ a6, Loads P 3 (ad.add (a5.toNat * 1)) (.int .i64 a6) wv /\ ((decide ((a6 : Int) = 0)) = true ->
 ∃ a7 : Int, a7 = IntKind.wrap .i64 (n - 1) /\ a3 a7 wv /\ mu a7 wv < mu n wv) /\
 ((decide ((a6 : Int) = 0)) = false ->
 (0 <= (n : Int) /\ (n : Int) <= (a2 : Nat)) /\ R (.slice (sub a0 0 a2 1) (n.toNat - 0) (a2 - 0)) wv)) /\
 ((decide ((0 : Int) < n)) = false ->
 (false = true ->
 ∃ a8 : Int, a8 = IntKind.wrap .i64 (n - 1) /\ a3 a8 wv /\ mu a8 wv < mu n wv) /\
 (false = false ->
 (0 <= (n : Int) /\ (n : Int) <= (a2 : Nat)) /\ R (.slice (sub a0 0 a2 1) (n.toNat - 0) (a2 - 0)) wv))
theorem spec_l02Trim_ret {a : Option Addr} {a0 a1 : Nat} (h : spec_l02Trim a a0 a1 w R) : Ret P 230 [.slice a a0 a1] w R := Ret.of_fsem Tryz.func230 rfl (Eq.mp (show _ = fsem P Tryz.f230 (fun k => cond (Nat.beq k 3) [(3, .one (.int .i64))] ([])) _ R w from by kernel_rfl) h)
def spec_BookOk (a0 : Option Addr) (a1 a2 : Nat) (w : World) (R : Value -> World -> Prop) : Prop :=
 ∀ r wv, New w (.cells ⟨[.slice a0 a1 a2]⟩ 89 (0, 0)) r wv ->
 ∃ a3 a4 a5, Loads P 87 ((⟨r, 0, none⟩ : Addr).add 0) (.slice a3 a4 a5) wv /\ ∃ (a6 : Int -> World -> Prop) (mu : Int -> World -> Nat), a6 0 wv /\
 ∀ (a7 : Fr) (a8 : World) (t8 : Int), a6 t8 a8 ->
 ((decide ((t8 : Int) < ((a4 : Nat) : Int))) = true ->
 (0 <= (t8 : Int) /\ (t8 : Int) < (a4 : Nat)) /\ ptrS a3 fun ad => ∃ a9 aa ab ac ae af, Loads P 97 (ad.add (t8.toNat * 4)) (.agg #[.string a9, .string aa, .bool ab, .slice ac ae af]) a8 /\ ∀ ag ah, New a8 (.cells ⟨[.string ByteArray.empty, .string ByteArray.empty, .bool false, .slice none 0 0]⟩ 97 (0, 0)) ag ah ->
 ∃ wv_3, Stores P 97 ⟨ag, 0, none⟩ (.agg #[.string a9, .string aa, .bool ab, .slice ac ae af]) ah wv_3 /\
 ∃ ai, (∀ wv_4, Ext wv_3.drew wv_4 -> Loads P 9 ((⟨ag, 0, none⟩ : Addr).add 0) (.string ai) wv_4) /\ Calls P 290 ⟨[.string ai]⟩ wv_3.drew fun e aj =>
 ∃ ak, e = .returned (.bool ak) /\
 ((!ak) = true ->
 (true = true ->
 (true = true ->
 R (.bool false) aj) /\
 (true = false ->
 ∃ al : Int, al = IntKind.wrap .i64 (t8 + 1) /\ a6 al aj /\ mu al aj < mu t8 a8)) /\
 (true = false ->
 ((decide ((0 : Int) < t8)) = true ->
 ∃ am an ao, (∀ wv_6, Ext aj wv_6 -> Loads P 87 ((⟨r, 0, none⟩ : Addr).add 0) (.slice am an ao) wv_6) /\ ∃ ap : Int, ap = IntKind.wrap .i64 (t8 - 1) /\ (0 <= (ap : Int) /\ (ap : Int) < (an : Nat)) /\ ptrS am fun aq => ∃ ar, (∀ wv_7, Ext aj wv_7 -> Loads P 9 ((aq.add (ap.toNat * 4)).add 0) (.string ar) wv_7) /\ ∃ au, (∀ wv_8, Ext aj wv_8 -> Loads P 9 ((⟨ag, 0, none⟩ : Addr).add 0) (.string au) wv_8) /\ ((!(Op.bytesLess ar.toList au.toList)) = true ->
 R (.bool false) aj) /\
 ((!(Op.bytesLess ar.toList au.toList)) = false ->
 ∃ av : Int, av = IntKind.wrap .i64 (t8 + 1) /\ a6 av aj /\ mu av aj < mu t8 a8)) /\
 ((decide ((0 : Int) < t8)) = false ->
 (false = true ->
 R (.bool false) aj) /\
 (false = false ->
 ∃ aw : Int, aw = IntKind.wrap .i64 (t8 + 1) /\ a6 aw aj /\ mu aw aj < mu t8 a8)))) /\
 ((!ak) = false ->
 ∃ ax ay az b0 b1, (∀ wv_9, Ext aj wv_9 -> Loads P 33 ((⟨ag, 0, none⟩ : Addr).add 1) (.agg #[.string ax, .bool ay, .slice az b0 b1]) wv_9) /\ Calls P 254 ⟨[.agg #[.string ax, .bool ay, .slice az b0 b1]]⟩ aj fun b2 b3 =>
 ∃ b4, b2 = .returned (.bool b4) /\
 ((!b4) = true ->
 (true = true ->
 R (.bool false) b3) /\
 (true = false ->
 ∃ b5 : Int, b5 = IntKind.wrap .i64 (t8 + 1) /\ a6 b5 b3 /\ mu b5 b3 < mu t8 a8)) /\
 ((!b4) = false ->
 ((decide ((0 : Int) < t8)) = true ->
 ∃ b6 b7 b8, (∀ wv_11, Ext b3 wv_11 -> Loads P 87 ((⟨r, 0, none⟩ : Addr).add 0) (.slice b6 b7 b8) wv_11) /\ ∃ b9 : Int, b9 = IntKind.wrap .i64 (t8 - 1) /\ (0 <= (b9 : Int) /\ (b9 : Int) < (b7 : Nat)) /\ ptrS b6 fun ba => ∃ bb, (∀ wv_12, Ext b3 wv_12 -> Loads P 9 ((ba.add (b9.toNat * 4)).add 0) (.string bb) wv_12) /\ ∃ bc, (∀ wv_13, Ext b3 wv_13 -> Loads P 9 ((⟨ag, 0, none⟩ : Addr).add 0) (.string bc) wv_13) /\ ((!(Op.bytesLess bb.toList bc.toList)) = true ->
 R (.bool false) b3) /\
 ((!(Op.bytesLess bb.toList bc.toList)) = false ->
 ∃ bd : Int, bd = IntKind.wrap .i64 (t8 + 1) /\ a6 bd b3 /\ mu bd b3 < mu t8 a8)) /\
 ((decide ((0 : Int) < t8)) = false ->
 (false = true ->
 R (.bool false) b3) /\
 (false = false ->
 ∃ be : Int, be = IntKind.wrap .i64 (t8 + 1) /\ a6 be b3 /\ mu be b3 < mu t8 a8))))) /\
 ((decide ((t8 : Int) < ((a4 : Nat) : Int))) = false ->
 ∃ bf bg bh, Loads P 87 ((⟨r, 0, none⟩ : Addr).add 0) (.slice bf bg bh) a8 /\ R (.bool (decide ((((bg : Nat) : Int) : Int) <= 12))) a8)
theorem spec_BookOk_ret {a : Option Addr} {a0 a1 : Nat} (h : spec_BookOk a a0 a1 w R) : Ret P 236 [.agg #[.slice a a0 a1]] w R := Ret.of_fsem Tryz.func236 rfl (Eq.mp (show _ = fsem P Tryz.f236 (fun k => cond (Nat.beq k 3) [(8, .one (.int .i64))] ([])) _ R w from by kernel_rfl) h)
def spec_AcctAt (a0 : Option Addr) (a1 a2 : Nat) (name : ByteArray) (w : World) (R : Value -> World -> Prop) : Prop :=
 ∀ r wv, New w (.cells ⟨[.slice a0 a1 a2]⟩ 89 (0, 0)) r wv ->
 ∃ a3 a4 a5, Loads P 87 ((⟨r, 0, none⟩ : Addr).add 0) (.slice a3 a4 a5) wv /\ ∃ (a6 : Int -> World -> Prop) (mu : Int -> World -> Nat), a6 0 wv /\
 ∀ (a7 : Fr) (a8 : World) (a9 : Int), a6 a9 a8 ->
 ((decide ((a9 : Int) < ((a4 : Nat) : Int))) = true ->
 (0 <= (a9 : Int) /\ (a9 : Int) < (a4 : Nat)) /\ ptrS a3 fun ad => ∃ aa ab ac ae af ag, Loads P 97 (ad.add (a9.toNat * 4)) (.agg #[.string aa, .string ab, .bool ac, .slice ae af ag]) a8 /\ ∀ ah ai, New a8 (.cells ⟨[.string ByteArray.empty, .string ByteArray.empty, .bool false, .slice none 0 0]⟩ 97 (0, 0)) ah ai ->
 ∃ wv_3, Stores P 97 ⟨ah, 0, none⟩ (.agg #[.string aa, .string ab, .bool ac, .slice ae af ag]) ai wv_3 /\
 ∃ aj, Loads P 9 ((⟨ah, 0, none⟩ : Addr).add 0) (.string aj) wv_3 /\ ((decide (aj = name)) = true ->
 R (.int .i64 a9) wv_3) /\
 ((decide (aj = name)) = false ->
 ∃ ak : Int, ak = IntKind.wrap .i64 (a9 + 1) /\ a6 ak wv_3 /\ mu ak wv_3 < mu a9 a8)) /\
 ((decide ((a9 : Int) < ((a4 : Nat) : Int))) = false ->
 R (.int .i64 (-1)) a8)
theorem spec_AcctAt_ret {a : Option Addr} {a0 a1 : Nat} {a2 : ByteArray} (h : spec_AcctAt a a0 a1 a2 w R) : Ret P 237 [.agg #[.slice a a0 a1], .string a2] w R := Ret.of_fsem Tryz.func237 rfl (Eq.mp (show _ = fsem P Tryz.f237 (fun k => cond (Nat.beq k 3) [(10, .one (.int .i64))] ([])) _ R w from by kernel_rfl) h)
def spec_l17Copy (a0 : Option Addr) (a1 a2 : Nat) (w : World) (R : Value -> World -> Prop) : Prop :=
 ∀ r wv, New w (.cells ⟨[.slice a0 a1 a2]⟩ 89 (0, 0)) r wv ->
 ∀ a3 a4, New wv (.cells ⟨[.slice none 0 0]⟩ 89 (0, 0)) a3 a4 ->
 ∀ a5 a6, New a4 (.cells ⟨[.slice none 0 0]⟩ 89 (0, 0)) a5 a6 ->
 ∃ wv_3, Stores P 89 ⟨a5, 0, none⟩ (.agg #[.slice none 0 0]) a6 wv_3 /\
 ∃ a7 a8 a9, Loads P 87 ((⟨r, 0, none⟩ : Addr).add 0) (.slice a7 a8 a9) wv_3 /\ ∃ (aa : Int -> World -> Prop) (mu : Int -> World -> Nat), aa 0 wv_3 /\
 ∀ (ab : Fr) (ac : World) (ae : Int), aa ae ac ->
 ((decide ((ae : Int) < ((a8 : Nat) : Int))) = true ->
 (0 <= (ae : Int) /\ (ae : Int) < (a8 : Nat)) /\ ptrS a7 fun ad => ∃ af ag ah ai aj ak, Loads P 97 (ad.add (ae.toNat * 4)) (.agg #[.string af, .string ag, .bool ah, .slice ai aj ak]) ac /\ ∀ al am, New ac (.cells ⟨[.string ByteArray.empty, .string ByteArray.empty, .bool false, .slice none 0 0]⟩ 97 (0, 0)) al am ->
 ∃ wv_6, Stores P 97 ⟨al, 0, none⟩ (.agg #[.string af, .string ag, .bool ah, .slice ai aj ak]) am wv_6 /\
 ∃ an ao ap, (∀ wv_7, Ext wv_6.drew wv_7 -> Loads P 87 ((⟨a5, 0, none⟩ : Addr).add 0) (.slice an ao ap) wv_7) /\ ∃ aq, (∀ wv_8, Ext wv_6.drew wv_8 -> Loads P 9 ((⟨al, 0, none⟩ : Addr).add 0) (.string aq) wv_8) /\ ∃ ar au av aw ax, (∀ wv_9, Ext wv_6.drew wv_9 -> Loads P 33 ((⟨al, 0, none⟩ : Addr).add 1) (.agg #[.string ar, .bool au, .slice av aw ax]) wv_9) /\ Calls P 291 ⟨[.agg #[.string ar, .bool au, .slice av aw ax]]⟩ wv_6.drew fun e ay =>
 ∃ az b0 b1 b2 b3, e = .returned (.agg #[.string az, .bool b0, .slice b1 b2 b3]) /\
 Ext wv_6.drew ay /\ ∀ b4 b5, New ay (.cells ⟨[.string aq, .string az, .bool b0, .slice b1 b2 b3]⟩ 97 (0, 0)) b4 b5 ->
 Ext ay b5 /\ ∃ b6 b7 b8 b9, Appends P [87, 87] [.slice an ao ap, (.slice (some ⟨b4, 0, none⟩) 1 1)] (.slice b6 b7 b8) b5 b9 /\
 ∃ wv_13, Stores P 87 ((⟨a5, 0, none⟩ : Addr).add 0) (.slice b6 b7 b8) b9 wv_13 /\
 ∃ ba : Int, ba = IntKind.wrap .i64 (ae + 1) /\ aa ba wv_13 /\ mu ba wv_13 < mu ae ac) /\
 ((decide ((ae : Int) < ((a8 : Nat) : Int))) = false ->
 ∃ bb bc bd, Loads P 89 ⟨a5, 0, none⟩ (.agg #[.slice bb bc bd]) ac /\ ∃ wv_14, Stores P 89 ⟨a3, 0, none⟩ (.agg #[.slice bb bc bd]) ac wv_14 /\
 ∃ be bf bg, Loads P 89 ⟨a3, 0, none⟩ (.agg #[.slice be bf bg]) wv_14 /\ R (.agg #[.slice be bf bg]) wv_14)
theorem spec_l17Copy_ret {a : Option Addr} {a0 a1 : Nat} (h : spec_l17Copy a a0 a1 w R) : Ret P 238 [.agg #[.slice a a0 a1]] w R := Ret.of_fsem Tryz.func238 rfl (Eq.mp (show _ = fsem P Tryz.f238 (fun k => cond (Nat.beq k 4) [(10, .one (.int .i64))] ([])) _ R w from by kernel_rfl) h)
def spec_MoneyAdd (m0 : ByteArray) (m1 : Bool) (a0 : Option Addr) (a1 a2 : Nat) (n0 : ByteArray) (n1 : Bool) (a3 : Option Addr) (a4 a5 : Nat) (w : World) (R : Value -> World -> Prop) : Prop :=
 ∀ r wv, New w (.cells ⟨[.string m0, .bool m1, .slice a0 a1 a2]⟩ 33 (0, 0)) r wv ->
 ∀ a6 a7, New wv (.cells ⟨[.string n0, .bool n1, .slice a3 a4 a5]⟩ 33 (0, 0)) a6 a7 ->
 ∀ a8 a9, New a7 (.cells ⟨[.string ByteArray.empty, .bool false, .slice none 0 0]⟩ 33 (0, 0)) a8 a9 ->
 ∃ aa ab ac ae af, Loads P 33 ⟨r, 0, none⟩ (.agg #[.string aa, .bool ab, .slice ac ae af]) a9 /\ ∃ ag ah ai aj ak, Loads P 33 ⟨a6, 0, none⟩ (.agg #[.string ag, .bool ah, .slice ai aj ak]) a9 /\ Calls P 292 ⟨[.agg #[.string aa, .bool ab, .slice ac ae af], .agg #[.string ag, .bool ah, .slice ai aj ak]]⟩ a9 fun e al =>
 ∃ t8, e = .returned (.bool t8) /\
 ((!t8) = true ->
 ∃ wv_4, Stores P 33 ⟨a8, 0, none⟩ (.agg #[.string ByteArray.empty, .bool false, .slice none 0 0]) al wv_4 /\
 ∃ r0 r1 am an ao, Loads P 33 ⟨a8, 0, none⟩ (.agg #[.string r0, .bool r1, .slice am an ao]) wv_4 /\ R (.tuple #[.agg #[.string r0, .bool r1, .slice am an ao], .bool false]) wv_4) /\
 ((!t8) = false ->
 ∃ ap, (∀ wv_5, Ext al.drew wv_5 -> Loads P 9 ((⟨r, 0, none⟩ : Addr).add 0) (.string ap) wv_5) /\ ∃ aq ar au av, (∀ wv_6, Ext al.drew wv_6 -> Loads P 31 ((⟨r, 0, none⟩ : Addr).add 1) (.agg #[.bool aq, .slice ar au av]) wv_6) /\ ∃ aw ax ay az, (∀ wv_7, Ext al.drew wv_7 -> Loads P 31 ((⟨a6, 0, none⟩ : Addr).add 1) (.agg #[.bool aw, .slice ax ay az]) wv_7) /\ Calls P 293 ⟨[.agg #[.bool aq, .slice ar au av], .agg #[.bool aw, .slice ax ay az]]⟩ al.drew fun b0 b1 =>
 ∃ b2 b3 b4 b5, b0 = .returned (.agg #[.bool b2, .slice b3 b4 b5]) /\
 Ext al.drew b1 /\ Calls P 255 ⟨[.string ap, .agg #[.bool b2, .slice b3 b4 b5]]⟩ b1 fun b6 b7 =>
 ∃ b8 b9 ba bb bc bd, b6 = .returned (.tuple #[.agg #[.string b8, .bool b9, .slice ba bb bc], .bool bd]) /\
 ∃ wv_10, Stores P 33 ⟨a8, 0, none⟩ (.agg #[.string b8, .bool b9, .slice ba bb bc]) b7 wv_10 /\
 ∃ r0_1 r1_1 be bf bg, Loads P 33 ⟨a8, 0, none⟩ (.agg #[.string r0_1, .bool r1_1, .slice be bf bg]) wv_10 /\ R (.tuple #[.agg #[.string r0_1, .bool r1_1, .slice be bf bg], .bool bd]) wv_10)
theorem spec_MoneyAdd_ret {m0 : ByteArray} {m1 : Bool} {a : Option Addr} {a0 a1 : Nat} {n0 : ByteArray} {n1 : Bool} {a2 : Option Addr} {a3 a4 : Nat} (h : spec_MoneyAdd m0 m1 a a0 a1 n0 n1 a2 a3 a4 w R) : Ret P 239 [.agg #[.string m0, .bool m1, .slice a a0 a1], .agg #[.string n0, .bool n1, .slice a2 a3 a4]] w R := Ret.of_fsem Tryz.func239 rfl (Eq.mp (show _ = fsem P Tryz.f239 (fun k => []) _ R w from by kernel_rfl) h)
def spec_MoneyOk (m0 : ByteArray) (m1 : Bool) (a0 : Option Addr) (a1 a2 : Nat) (w : World) (R : Value -> World -> Prop) : Prop :=
 ∀ r wv, New w (.cells ⟨[.string m0, .bool m1, .slice a0 a1 a2]⟩ 33 (0, 0)) r wv ->
 ∃ t4, Loads P 9 ((⟨r, 0, none⟩ : Addr).add 0) (.string t4) wv /\ Calls P 302 ⟨[.string t4]⟩ wv fun e a3 =>
 ∃ t5, e = .returned (.bool t5) /\
 (t5 = true ->
 ∃ a4 a5 a6 a7, Loads P 31 ((⟨r, 0, none⟩ : Addr).add 1) (.agg #[.bool a4, .slice a5 a6 a7]) a3 /\ Calls P 190 ⟨[.agg #[.bool a4, .slice a5 a6 a7]]⟩ a3 fun a8 a9 =>
 ∃ t9, a8 = .returned (.bool t9) /\
 (t9 = true ->
 ∃ aa ab ac, Loads P 29 (((⟨r, 0, none⟩ : Addr).add 1).add 1) (.slice aa ab ac) a9 /\ R (.bool (decide ((((ab : Nat) : Int) : Int) <= 4))) a9) /\
 (t9 = false ->
 R (.bool false) a9)) /\
 (t5 = false ->
 (false = true ->
 ∃ ae af ag, Loads P 29 (((⟨r, 0, none⟩ : Addr).add 1).add 1) (.slice ae af ag) a3 /\ R (.bool (decide ((((af : Nat) : Int) : Int) <= 4))) a3) /\
 (false = false ->
 R (.bool false) a3))
theorem spec_MoneyOk_ret {m0 : ByteArray} {m1 : Bool} {a : Option Addr} {a0 a1 : Nat} (h : spec_MoneyOk m0 m1 a a0 a1 w R) : Ret P 254 [.agg #[.string m0, .bool m1, .slice a a0 a1]] w R := Ret.of_fsem Tryz.func254 rfl (Eq.mp (show _ = fsem P Tryz.f254 (fun k => []) _ R w from by kernel_rfl) h)
def spec_l09Make (cur : ByteArray) (x0 : Bool) (a0 : Option Addr) (a1 a2 : Nat) (w : World) (R : Value -> World -> Prop) : Prop :=
 ∀ r wv, New w (.cells ⟨[.bool x0, .slice a0 a1 a2]⟩ 31 (0, 0)) r wv ->
 ∀ a3 a4, New wv (.cells ⟨[.string ByteArray.empty, .bool false, .slice none 0 0]⟩ 33 (0, 0)) a3 a4 ->
 ∃ a5 a6 a7 a8, Loads P 31 ⟨r, 0, none⟩ (.agg #[.bool a5, .slice a6 a7 a8]) a4 /\ ∀ a9 aa, New a4 (.cells ⟨[.string ByteArray.empty, .bool false, .slice none 0 0]⟩ 33 (0, 0)) a9 aa ->
 ∃ wv_3, Stores P 33 ⟨a9, 0, none⟩ (.agg #[.string cur, .bool a5, .slice a6 a7 a8]) aa wv_3 /\
 ∃ ab ac ae af ag, Loads P 33 ⟨a9, 0, none⟩ (.agg #[.string ab, .bool ac, .slice ae af ag]) wv_3 /\ Calls P 254 ⟨[.agg #[.string ab, .bool ac, .slice ae af ag]]⟩ wv_3 fun e ah =>
 ∃ ai, e = .returned (.bool ai) /\
 ((!ai) = true ->
 ∃ wv_5, Stores P 33 ⟨a3, 0, none⟩ (.agg #[.string ByteArray.empty, .bool false, .slice none 0 0]) ah wv_5 /\
 ∃ r0 r1 aj ak al, Loads P 33 ⟨a3, 0, none⟩ (.agg #[.string r0, .bool r1, .slice aj ak al]) wv_5 /\ R (.tuple #[.agg #[.string r0, .bool r1, .slice aj ak al], .bool false]) wv_5) /\
 ((!ai) = false ->
 ∃ am an ao ap aq, Loads P 33 ⟨a9, 0, none⟩ (.agg #[.string am, .bool an, .slice ao ap aq]) ah /\ ∃ wv_6, Stores P 33 ⟨a3, 0, none⟩ (.agg #[.string am, .bool an, .slice ao ap aq]) ah wv_6 /\
 ∃ r0_1 r1_1 ar au av, Loads P 33 ⟨a3, 0, none⟩ (.agg #[.string r0_1, .bool r1_1, .slice ar au av]) wv_6 /\ R (.tuple #[.agg #[.string r0_1, .bool r1_1, .slice ar au av], .bool true]) wv_6)
theorem spec_l09Make_ret {a : ByteArray} {x0 : Bool} {a0 : Option Addr} {a1 a2 : Nat} (h : spec_l09Make a x0 a0 a1 a2 w R) : Ret P 255 [.string a, .agg #[.bool x0, .slice a0 a1 a2]] w R := Ret.of_fsem Tryz.func255 rfl (Eq.mp (show _ = fsem P Tryz.f255 (fun k => []) _ R w from by kernel_rfl) h)
def spec_IntNeg (x0 : Bool) (a0 : Option Addr) (a1 a2 : Nat) (w : World) (R : Value -> World -> Prop) : Prop :=
 ∀ r wv, New w (.cells ⟨[.bool x0, .slice a0 a1 a2]⟩ 31 (0, 0)) r wv ->
 ∀ a3 a4, New wv (.cells ⟨[.bool false, .slice none 0 0]⟩ 31 (0, 0)) a3 a4 ->
 ∃ a5 a6 a7 a8, Loads P 31 ⟨r, 0, none⟩ (.agg #[.bool a5, .slice a6 a7 a8]) a4 /\ Calls P 190 ⟨[.agg #[.bool a5, .slice a6 a7 a8]]⟩ a4 fun e a9 =>
 ∃ t4, e = .returned (.bool t4) /\
 ((!t4) = true ->
 ∃ wv_3, Stores P 31 ⟨a3, 0, none⟩ (.agg #[.bool false, .slice none 0 0]) a9 wv_3 /\
 ∃ r0 aa ab ac, Loads P 31 ⟨a3, 0, none⟩ (.agg #[.bool r0, .slice aa ab ac]) wv_3 /\ R (.agg #[.bool r0, .slice aa ab ac]) wv_3) /\
 ((!t4) = false ->
 ∃ t8, Loads P 4 ((⟨r, 0, none⟩ : Addr).add 0) (.bool t8) a9 /\ ∃ ae af ag, Loads P 29 ((⟨r, 0, none⟩ : Addr).add 1) (.slice ae af ag) a9 /\ Calls P 164 ⟨[(.bool (!t8)), .slice ae af ag]⟩ a9 fun ah ai =>
 ∃ aj ak al am, ah = .returned (.agg #[.bool aj, .slice ak al am]) /\
 ∃ wv_5, Stores P 31 ⟨a3, 0, none⟩ (.agg #[.bool aj, .slice ak al am]) ai wv_5 /\
 ∃ r0_1 an ao ap, Loads P 31 ⟨a3, 0, none⟩ (.agg #[.bool r0_1, .slice an ao ap]) wv_5 /\ R (.agg #[.bool r0_1, .slice an ao ap]) wv_5)
theorem spec_IntNeg_ret {x0 : Bool} {a : Option Addr} {a0 a1 : Nat} (h : spec_IntNeg x0 a a0 a1 w R) : Ret P 256 [.agg #[.bool x0, .slice a a0 a1]] w R := Ret.of_fsem Tryz.func256 rfl (Eq.mp (show _ = fsem P Tryz.f256 (fun k => []) _ R w from by kernel_rfl) h)
def impl_mustPost (b0_p : Option Addr) (b0_n : Nat) (b0_c : Nat) (l_p : Option Addr) (l_n : Nat) (l_c : Nat) (w : World) (R Z : Value -> World -> Prop) : Prop :=
 ∀ (r : Nat) (wv : World), New w (.cells ⟨[(.slice b0_p b0_n b0_c)]⟩ 89 (0, 0)) r wv ->
 ∀ (r_1 : Nat) (wv_1 : World), New wv (.cells ⟨[(.slice none 0 0)]⟩ 89 (0, 0)) r_1 wv_1 ->
 ∃ (Inv : Int -> World -> Prop) (mu : Int -> World -> Nat), Inv 0 wv_1 /\
 ∀ (junk : Fr) (wv_2 : World) (t11 : Int), Inv t11 wv_2 ->
 ((decide ((t11 : Int) < ((l_n : Nat) : Int))) = true ->
 (0 <= (t11 : Int) /\ (t11 : Int) < (l_n : Nat)) /\ ptrS l_p fun ad => ∃ (t140 : ByteArray) (t141 : ByteArray) (t142 : Bool) (t143_p : Option Addr) (t143_n : Nat) (t143_c : Nat), Loads P 181 (ad.add (t11.toNat * 4)) (.agg #[(.string t140), (.string t141), (.bool t142), (.slice t143_p t143_n t143_c)]) wv_2 /\ ∀ (r_2 : Nat) (wv_3 : World), New wv_2 (.cells ⟨[(.string ByteArray.empty), (.string ByteArray.empty), (.bool false), (.slice none 0 0)]⟩ 181 (0, 0)) r_2 wv_3 ->
 ∃ wv_4, Stores P 181 ⟨r_2, 0, none⟩ (.agg #[(.string t140), (.string t141), (.bool t142), (.slice t143_p t143_n t143_c)]) wv_3 wv_4 /\
 ∃ (t160_p : Option Addr) (t160_n : Nat) (t160_c : Nat), Loads P 89 ⟨r, 0, none⟩ (.agg #[(.slice t160_p t160_n t160_c)]) wv_4 /\ ∃ (t18 : ByteArray), Loads P 9 ((⟨r_2, 0, none⟩ : Addr).add 0) (.string t18) wv_4 /\ ∃ (t200 : ByteArray) (t201 : Bool) (t202_p : Option Addr) (t202_n : Nat) (t202_c : Nat), Loads P 33 ((⟨r_2, 0, none⟩ : Addr).add 1) (.agg #[(.string t200), (.bool t201), (.slice t202_p t202_n t202_c)]) wv_4 /\ Calls P 53 ⟨[(.agg #[(.slice t160_p t160_n t160_c)]), (.string t18), (.agg #[(.string t200), (.bool t201), (.slice t202_p t202_n t202_c)])]⟩ wv_4 fun e wv_5 =>
 ∃ (t210_p : Option Addr) (t210_n : Nat) (t210_c : Nat) (t21 : Bool), e = .returned (.tuple #[(.agg #[(.slice t210_p t210_n t210_c)]), (.bool t21)]) /\
 ∀ (r_3 : Nat) (wv_6 : World), New wv_5 (.cells ⟨[(.slice none 0 0)]⟩ 89 (0, 0)) r_3 wv_6 ->
 ∃ wv_7, Stores P 89 ⟨r_3, 0, none⟩ (.agg #[(.slice t210_p t210_n t210_c)]) wv_6 wv_7 /\
 ((!t21) = true ->
 Z (.iface 3 (.int .i64 5)) wv_7) /\
 ((!t21) = false ->
 ∃ (t270_p : Option Addr) (t270_n : Nat) (t270_c : Nat), Loads P 89 ⟨r_3, 0, none⟩ (.agg #[(.slice t270_p t270_n t270_c)]) wv_7 /\ ∃ wv_8, Stores P 89 ⟨r, 0, none⟩ (.agg #[(.slice t270_p t270_n t270_c)]) wv_7 wv_8 /\
 ∃ t28 : Int, t28 = IntKind.wrap .i64 (t11 + 1) /\ Inv t28 wv_8 /\ mu t28 wv_8 < mu t11 wv_2)) /\
 ((decide ((t11 : Int) < ((l_n : Nat) : Int))) = false ->
 ∃ (t290_p : Option Addr) (t290_n : Nat) (t290_c : Nat), Loads P 89 ⟨r, 0, none⟩ (.agg #[(.slice t290_p t290_n t290_c)]) wv_2 /\ ∃ wv_9, Stores P 89 ⟨r_1, 0, none⟩ (.agg #[(.slice t290_p t290_n t290_c)]) wv_2 wv_9 /\
 ∃ (r0_p : Option Addr) (r0_n : Nat) (r0_c : Nat), Loads P 89 ⟨r_1, 0, none⟩ (.agg #[(.slice r0_p r0_n r0_c)]) wv_9 /\ R (.agg #[(.slice r0_p r0_n r0_c)]) wv_9)
theorem impl_mustPost_eq (b0_p : Option Addr) (b0_n : Nat) (b0_c : Nat) (l_p : Option Addr) (l_n : Nat) (l_c : Nat) (w : World) (R Z : Value -> World -> Prop) : impl_mustPost b0_p b0_n b0_c l_p l_n l_c w R Z = fsemZ P Tryz.f258 (fun k => cond (Nat.beq k 3) [(11, .one (.int .i64))] ([])) [(.agg #[(.slice b0_p b0_n b0_c)]), (.slice l_p l_n l_c)] R Z w := by kernel_rfl
theorem impl_mustPost_ret {b0_p : Option Addr} {b0_n : Nat} {b0_c : Nat} {l_p : Option Addr} {l_n : Nat} {l_c : Nat} {w : World} {R Z : Value -> World -> Prop} (h : impl_mustPost b0_p b0_n b0_c l_p l_n l_c w R Z) : RetZ P 258 [(.agg #[(.slice b0_p b0_n b0_c)]), (.slice l_p l_n l_c)] w R Z :=
  RetZ.of_fsem Tryz.func258 rfl (Eq.mp (impl_mustPost_eq b0_p b0_n b0_c l_p l_n l_c w R Z) h)
def cmp_isNaN_string (x : ByteArray) (w : World) (R : Value -> World -> Prop) : Prop :=
 R (.bool (decide (x ≠ x))) w
theorem cmp_isNaN_string_ret {x : ByteArray} (h : cmp_isNaN_string x w R) : Ret P 259 [.string x] w R := Ret.of_fsem Tryz.func259 rfl (Eq.mp (show _ = fsem P Tryz.f259 (fun k => []) _ R w from by kernel_rfl) h)
def slices_BinarySearchFunc_impl_Money_impl_Money_impl_Money (a0 : Option Addr) (a1 a2 : Nat) (target0 : ByteArray) (target1 : Bool) (a3 : Option Addr) (a4 a5 : Nat) (cmp : Value) (w : World) (R : Value -> World -> Prop) : Prop :=
 ∀ r wv, New w (.cells ⟨[.string target0, .bool target1, .slice a3 a4 a5]⟩ 33 (0, 0)) r wv ->
 ∃ (a6 : Int -> Int -> World -> Prop) (mu : Int -> Int -> World -> Nat), a6 0 ((a1 : Nat) : Int) wv /\
 ∀ (a7 : Fr) (a8 : World) (i j : Int), a6 i j a8 ->
 ((decide ((i : Int) < j)) = true ->
 ∃ a9 : Int, a9 = IntKind.wrap .i64 (i + j) /\ ∃ aa : Int, aa = IntKind.wrap .u64 a9 /\ 0 <= (1 : Int) /\ ∃ ab : Int, ab = Int.fdiv aa (2 ^ (min (1 : Int).toNat (IntKind.bits .u64))) /\ ∃ ac : Int, ac = IntKind.wrap .i64 ab /\ (0 <= (ac : Int) /\ (ac : Int) < (a1 : Nat)) /\ ptrS a0 fun ad => ∃ ae af ag ah ai, (∀ wv_2, Ext a8.drew wv_2 -> Loads P 33 (ad.add (ac.toNat * 3)) (.agg #[.string ae, .bool af, .slice ag ah ai]) wv_2) /\ ∃ aj ak al am an, (∀ wv_3, Ext a8.drew wv_3 -> Loads P 33 ⟨r, 0, none⟩ (.agg #[.string aj, .bool ak, .slice al am an]) wv_3) /\ CallW P cmp [.agg #[.string ae, .bool af, .slice ag ah ai], .agg #[.string aj, .bool ak, .slice al am an]] a8.drew fun e ao =>
 ∃ ap, e = .returned (.int .i64 ap) /\
 ((decide ((ap : Int) < 0)) = true ->
 ∃ aq : Int, aq = IntKind.wrap .i64 (ac + 1) /\ a6 aq j ao /\ mu aq j ao < mu i j a8) /\
 ((decide ((ap : Int) < 0)) = false ->
 a6 i ac ao /\ mu i ac ao < mu i j a8)) /\
 ((decide ((i : Int) < j)) = false ->
 ((decide ((i : Int) < ((a1 : Nat) : Int))) = true ->
 (0 <= (i : Int) /\ (i : Int) < (a1 : Nat)) /\ ptrS a0 fun ar => ∃ au av aw ax ay, (∀ wv_5, Ext a8.drew wv_5 -> Loads P 33 (ar.add (i.toNat * 3)) (.agg #[.string au, .bool av, .slice aw ax ay]) wv_5) /\ ∃ az b0 b1 b2 b3, (∀ wv_6, Ext a8.drew wv_6 -> Loads P 33 ⟨r, 0, none⟩ (.agg #[.string az, .bool b0, .slice b1 b2 b3]) wv_6) /\ CallW P cmp [.agg #[.string au, .bool av, .slice aw ax ay], .agg #[.string az, .bool b0, .slice b1 b2 b3]] a8.drew fun b4 b5 =>
 ∃ b6, b4 = .returned (.int .i64 b6) /\
 R (.tuple #[.int .i64 i, (.bool (decide ((b6 : Int) = 0)))]) b5) /\
 ((decide ((i : Int) < ((a1 : Nat) : Int))) = false ->
 R (.tuple #[.int .i64 i, .bool false]) a8.drew))
theorem slices_BinarySearchFunc_impl_Money_impl_Money_impl_Money_ret {a : Option Addr} {a0 a1 : Nat} {a2 : ByteArray} {a3 : Bool} {a4 : Option Addr} {a5 a6 : Nat} {a7 : Value} (h : slices_BinarySearchFunc_impl_Money_impl_Money_impl_Money a a0 a1 a2 a3 a4 a5 a6 a7 w R) : Ret P 260 [.slice a a0 a1, .agg #[.string a2, .bool a3, .slice a4 a5 a6], a7] w R := Ret.of_fsem Tryz.func260 rfl (Eq.mp (show _ = fsem P Tryz.f260 (fun k => cond (Nat.beq k 4) [(9, .one (.int .i64)), (10, .one (.int .i64))] ([])) _ R w from by kernel_rfl) h)
end Go.Proofs.YtbgokfhcgcoipaaGreatDoor
namespace Go.Proofs.YtbgokfhcgcoipaaGreatDoor
variable {w : World} {R : Value -> World -> Prop}
open Go Go.Proofs.YtbgokfhcgcoipaaGreatDoor.Sx
set_option maxRecDepth 100000
def slices_Insert_impl_Money_impl_Money (a0 : Option Addr) (a1 a2 : Nat) (i : Int) (a3 : Option Addr) (a4 a5 : Nat) (w : World) (R : Value -> World -> Prop) : Prop :=
 (0 <= (i : Int) /\ (i : Int) <= (a1 : Nat)) /\ ((decide ((((a4 : Nat) : Int) : Int) = 0)) = true ->
 R (.slice a0 a1 a2) w) /\
 ((decide ((((a4 : Nat) : Int) : Int) = 0)) = false ->
 ((decide ((i : Int) = ((a1 : Nat) : Int))) = true ->
 ∃ a6 a7 a8 wv, Appends P [114, 114] [.slice a0 a1 a2, .slice a3 a4 a5] (.slice a6 a7 a8) w wv /\
 R (.slice a6 a7 a8) wv) /\
 ((decide ((i : Int) = ((a1 : Nat) : Int))) = false ->
 ∃ a9 : Int, a9 = IntKind.wrap .i64 (((a1 : Nat) : Int) + ((a4 : Nat) : Int)) /\ ((decide ((((a2 : Nat) : Int) : Int) < a9)) = true ->
 (0 <= (i : Int) /\ (i : Int) <= (a2 : Nat)) /\ ∃ aa : Int, aa = IntKind.wrap .i64 (((a1 : Nat) : Int) + ((a4 : Nat) : Int)) /\ ∃ ab : Int, ab = IntKind.wrap .i64 (aa - i) /\ ∃ ac ae af ag, Appends P [114, 3] [(.slice (sub a0 0 a2 3) (i.toNat - 0) (a2 - 0)), .int .i64 ab] (.slice ac ae af) w ag /\
 (0 <= (i : Int) /\ (i : Int) <= (ae : Nat)) /\ ∃ ah ai, Copies P [114, 114] [(.slice (sub ac i.toNat af 3) (ae - i.toNat) (af - i.toNat)), .slice a3 a4 a5] (.int .i64 ah) ag ai /\
 ∃ aj : Int, aj = IntKind.wrap .i64 (i + ((a4 : Nat) : Int)) /\ (0 <= (aj : Int) /\ (aj : Int) <= (ae : Nat)) /\ (0 <= (i : Int) /\ (i : Int) <= (a1 : Nat)) /\ ∃ ak al, Copies P [114, 114] [(.slice (sub ac aj.toNat af 3) (ae - aj.toNat) (af - aj.toNat)), (.slice (sub a0 i.toNat a2 3) (a1 - i.toNat) (a2 - i.toNat))] (.int .i64 ak) ai.drew al /\
 R (.slice ac ae af) al) /\
 ((decide ((((a2 : Nat) : Int) : Int) < a9)) = false ->
 ∃ am : Int, am = IntKind.wrap .i64 (((a1 : Nat) : Int) + ((a4 : Nat) : Int)) /\ (0 <= (am : Int) /\ (am : Int) <= (a2 : Nat)) /\ ∃ an : Int, an = IntKind.wrap .i64 (i + ((a4 : Nat) : Int)) /\ (0 <= (an : Int) /\ (an : Int) <= ((am.toNat - 0) : Nat)) /\ ∃ ao ap, Externs P 303 [.slice a3 a4 a5, (.slice (sub (sub a0 0 a2 3) an.toNat (a2 - 0) 3) ((am.toNat - 0) - an.toNat) ((a2 - 0) - an.toNat))] (.bool ao) w ap /\
 ((!ao) = true ->
 ∃ aq : Int, aq = IntKind.wrap .i64 (i + ((a4 : Nat) : Int)) /\ (0 <= (aq : Int) /\ (aq : Int) <= ((am.toNat - 0) : Nat)) /\ (0 <= (i : Int) /\ (i : Int) <= ((am.toNat - 0) : Nat)) /\ ∃ ar au, Copies P [114, 114] [(.slice (sub (sub a0 0 a2 3) aq.toNat (a2 - 0) 3) ((am.toNat - 0) - aq.toNat) ((a2 - 0) - aq.toNat)), (.slice (sub (sub a0 0 a2 3) i.toNat (a2 - 0) 3) ((am.toNat - 0) - i.toNat) ((a2 - 0) - i.toNat))] (.int .i64 ar) ap.drew au /\
 (0 <= (i : Int) /\ (i : Int) <= ((am.toNat - 0) : Nat)) /\ ∃ av aw, Copies P [114, 114] [(.slice (sub (sub a0 0 a2 3) i.toNat (a2 - 0) 3) ((am.toNat - 0) - i.toNat) ((a2 - 0) - i.toNat)), .slice a3 a4 a5] (.int .i64 av) au aw /\
 R (.slice (sub a0 0 a2 3) (am.toNat - 0) (a2 - 0)) aw) /\
 ((!ao) = false ->
 (0 <= (((a1 : Nat) : Int) : Int) /\ (((a1 : Nat) : Int) : Int) <= ((am.toNat - 0) : Nat)) /\ ∃ ax ay, Copies P [114, 114] [(.slice (sub (sub a0 0 a2 3) a1 (a2 - 0) 3) ((am.toNat - 0) - a1) ((a2 - 0) - a1)), .slice a3 a4 a5] (.int .i64 ax) ap ay /\
 (0 <= (i : Int) /\ (i : Int) <= ((am.toNat - 0) : Nat)) /\ Calls P 304 ⟨[(.slice (sub (sub a0 0 a2 3) i.toNat (a2 - 0) 3) ((am.toNat - 0) - i.toNat) ((a2 - 0) - i.toNat)), (.int .i64 ((a4 : Nat) : Int))]⟩ ay fun az b0 =>
 az = .returned (.tuple #[]) /\
 R (.slice (sub a0 0 a2 3) (am.toNat - 0) (a2 - 0)) b0))))
theorem slices_Insert_impl_Money_impl_Money_ret {a : Option Addr} {a0 a1 : Nat} {i : Int} {a2 : Option Addr} {a3 a4 : Nat} (h : slices_Insert_impl_Money_impl_Money a a0 a1 i a2 a3 a4 w R) : Ret P 261 [.slice a a0 a1, .int .i64 i, .slice a2 a3 a4] w R := Ret.of_fsem Tryz.func261 rfl (Eq.mp (show _ = fsem P Tryz.f261 (fun k => []) _ R w from by kernel_rfl) h)
def spec_l02Sub_j1 (a0 : World) (a1 : Option Addr -> Nat -> Nat -> Int -> Int -> World -> Prop) (mu : Option Addr -> Nat -> Nat -> Int -> Int -> World -> Nat) (a2 : Option Addr) (a3 a4 : Nat) (less a5 : Int) (less_1 n_1 : Int) (a6 : World) (R : Value -> World -> Prop) : Prop :=
 ∀ a7 a8, New a6 (.cells ⟨[.int .i64 n_1]⟩ 3 (0, 0)) a7 a8 ->
 ∃ a9 aa ab ac, Appends P [29, 29] [.slice a2 a3 a4, (.slice (some ⟨a7, 0, none⟩) 1 1)] (.slice a9 aa ab) a8 ac /\
 ∃ ae : Int, ae = IntKind.wrap .i64 (a5 + 1) /\ a1 a9 aa ab less_1 ae ac /\ mu a9 aa ab less_1 ae ac < mu a2 a3 a4 less a5 a0
def spec_l02Sub_j0 (a0 : World) (a1 : Option Addr -> Nat -> Nat -> Int -> Int -> World -> Prop) (mu : Option Addr -> Nat -> Nat -> Int -> Int -> World -> Nat) (a2 : Option Addr) (a3 a4 : Nat) (less a5 n : Int) (W : World) (R : Value -> World -> Prop) : Prop :=
 ((decide ((n : Int) < 0)) = true ->
 ∃ a6 : Int, a6 = IntKind.wrap .i64 (n + 1000000000) /\ spec_l02Sub_j1 a0 a1 mu a2 a3 a4 less a5 1 a6 W R) /\
 ((decide ((n : Int) < 0)) = false ->
 spec_l02Sub_j1 a0 a1 mu a2 a3 a4 less a5 0 n W R)
def spec_l02Sub (a0 : Option Addr) (a1 a2 : Nat) (a3 : Option Addr) (a4 a5 : Nat) (w : World) (R : Value -> World -> Prop) : Prop :=
 ∀ r wv, New w (.cells ⟨[]⟩ 3 (0, 0)) r wv ->
 ∃ (a6 : Option Addr -> Nat -> Nat -> Int -> Int -> World -> Prop) (mu : Option Addr -> Nat -> Nat -> Int -> Int -> World -> Nat), a6 (some ⟨r, 0, none⟩) 0 0 0 0 wv /\
 ∀ (a7 : Fr) (a8 : World) (a9 : Option Addr) (aa ab : Nat) (less ac : Int), a6 a9 aa ab less ac a8 ->
 ((decide ((ac : Int) < ((a1 : Nat) : Int))) = true ->
 (0 <= (ac : Int) /\ (ac : Int) < (a1 : Nat)) /\ ptrS a0 fun ad => ∃ ae, Loads P 3 (ad.add (ac.toNat * 1)) (.int .i64 ae) a8 /\ ∃ af : Int, af = IntKind.wrap .i64 (ae - less) /\ ((decide ((ac : Int) < ((a4 : Nat) : Int))) = true ->
 (0 <= (ac : Int) /\ (ac : Int) < (a4 : Nat)) /\ ptrS a3 fun ag => ∃ ah, Loads P 3 (ag.add (ac.toNat * 1)) (.int .i64 ah) a8 /\ ∃ ai : Int, ai = IntKind.wrap .i64 (af - ah) /\ spec_l02Sub_j0 a8 a6 mu a9 aa ab less ac ai a8 R) /\
 ((decide ((ac : Int) < ((a4 : Nat) : Int))) = false ->
 spec_l02Sub_j0 a8 a6 mu a9 aa ab less ac af a8 R)) /\
 ((decide ((ac : Int) < ((a1 : Nat) : Int))) = false ->
 Calls P 230 ⟨[.slice a9 aa ab]⟩ a8 fun e aj =>
 ∃ ak al am, e = .returned (.slice ak al am) /\
 R (.slice ak al am) aj)
theorem spec_l02Sub_ret {a : Option Addr} {a0 a1 : Nat} {a2 : Option Addr} {a3 a4 : Nat} (h : spec_l02Sub a a0 a1 a2 a3 a4 w R) : Ret P 288 [.slice a a0 a1, .slice a2 a3 a4] w R := Ret.of_fsem Tryz.func288 rfl (Eq.mp (show _ = fsem P Tryz.f288 (fun k => cond (Nat.beq k 5) [(5, .one .slice), (6, .one (.int .i64)), (12, .one (.int .i64))] ([])) _ R w from by kernel_rfl) h)
def spec_IsWord (s : ByteArray) (w : World) (R : Value -> World -> Prop) : Prop :=
 Calls P 212 ⟨[.string s, .int .u8 97, .int .u8 122, .int .u8 48, .int .u8 57]⟩ w fun e wv =>
 ∃ t4, e = .returned (.bool t4) /\
 (t4 = true ->
 ((decide ((((s.size : Nat) : Int) : Int) <= 12)) = true ->
 0 <= (0 : Int) /\ ∃ b : UInt8, s[0]? = some b /\ R (.bool (decide ((97 : Int) <= ((b.toNat : Nat) : Int)))) wv) /\
 ((decide ((((s.size : Nat) : Int) : Int) <= 12)) = false ->
 R (.bool false) wv)) /\
 (t4 = false ->
 (false = true ->
 0 <= (0 : Int) /\ ∃ a0 : UInt8, s[0]? = some a0 /\ R (.bool (decide ((97 : Int) <= ((a0.toNat : Nat) : Int)))) wv) /\
 (false = false ->
 R (.bool false) wv))
theorem spec_IsWord_ret {s : ByteArray} (h : spec_IsWord s w R) : Ret P 290 [.string s] w R := Ret.of_fsem Tryz.func290 rfl (Eq.mp (show _ = fsem P Tryz.f290 (fun k => []) _ R w from by kernel_rfl) h)
def spec_l17Money (m0 : ByteArray) (m1 : Bool) (a0 : Option Addr) (a1 a2 : Nat) (w : World) (R : Value -> World -> Prop) : Prop :=
 ∀ r wv, New w (.cells ⟨[.string m0, .bool m1, .slice a0 a1 a2]⟩ 33 (0, 0)) r wv ->
 ∀ a3 a4, New wv (.cells ⟨[.string ByteArray.empty, .bool false, .slice none 0 0]⟩ 33 (0, 0)) a3 a4 ->
 ∃ t4, (∀ wv_2, Ext a4.drew wv_2 -> Loads P 9 ((⟨r, 0, none⟩ : Addr).add 0) (.string t4) wv_2) /\ ∃ t7, (∀ wv_3, Ext a4.drew wv_3 -> Loads P 4 (((⟨r, 0, none⟩ : Addr).add 1).add 0) (.bool t7) wv_3) /\ ∀ a5 a6, New a4.drew (.cells ⟨[]⟩ 3 (0, 0)) a5 a6 ->
 Ext a4.drew a6 /\ ∃ a7 a8 a9, (∀ wv_5, Ext a4.drew wv_5 -> Loads P 29 (((⟨r, 0, none⟩ : Addr).add 1).add 1) (.slice a7 a8 a9) wv_5) /\ ∃ aa ab ac ae, Appends P [29, 29] [(.slice (some ⟨a5, 0, none⟩) 0 0), .slice a7 a8 a9] (.slice aa ab ac) a6 ae /\
 Ext a6 ae /\ ∃ wv_7, Stores P 33 ⟨a3, 0, none⟩ (.agg #[.string t4, .bool t7, .slice aa ab ac]) ae wv_7 /\
 ∃ r0 r1 af ag ah, Loads P 33 ⟨a3, 0, none⟩ (.agg #[.string r0, .bool r1, .slice af ag ah]) wv_7 /\ R (.agg #[.string r0, .bool r1, .slice af ag ah]) wv_7
theorem spec_l17Money_ret {m0 : ByteArray} {m1 : Bool} {a : Option Addr} {a0 a1 : Nat} (h : spec_l17Money m0 m1 a a0 a1 w R) : Ret P 291 [.agg #[.string m0, .bool m1, .slice a a0 a1]] w R := Ret.of_fsem Tryz.func291 rfl (Eq.mp (show _ = fsem P Tryz.f291 (fun k => []) _ R w from by kernel_rfl) h)
def spec_l09Both (m0 : ByteArray) (m1 : Bool) (a0 : Option Addr) (a1 a2 : Nat) (n0 : ByteArray) (n1 : Bool) (a3 : Option Addr) (a4 a5 : Nat) (w : World) (R : Value -> World -> Prop) : Prop :=
 ∀ r wv, New w (.cells ⟨[.string m0, .bool m1, .slice a0 a1 a2]⟩ 33 (0, 0)) r wv ->
 ∀ a6 a7, New wv (.cells ⟨[.string n0, .bool n1, .slice a3 a4 a5]⟩ 33 (0, 0)) a6 a7 ->
 ∃ a8 a9 aa ab ac, Loads P 33 ⟨r, 0, none⟩ (.agg #[.string a8, .bool a9, .slice aa ab ac]) a7 /\ Calls P 254 ⟨[.agg #[.string a8, .bool a9, .slice aa ab ac]]⟩ a7 fun e ae =>
 ∃ t6, e = .returned (.bool t6) /\
 (t6 = true ->
 ∃ af ag ah ai aj, Loads P 33 ⟨a6, 0, none⟩ (.agg #[.string af, .bool ag, .slice ah ai aj]) ae /\ Calls P 254 ⟨[.agg #[.string af, .bool ag, .slice ah ai aj]]⟩ ae fun ak al =>
 ∃ t9, ak = .returned (.bool t9) /\
 (t9 = true ->
 ∃ am, Loads P 9 ((⟨r, 0, none⟩ : Addr).add 0) (.string am) al /\ ∃ an, Loads P 9 ((⟨a6, 0, none⟩ : Addr).add 0) (.string an) al /\ R (.bool (decide (am = an))) al) /\
 (t9 = false ->
 R (.bool false) al)) /\
 (t6 = false ->
 (false = true ->
 ∃ ao, Loads P 9 ((⟨r, 0, none⟩ : Addr).add 0) (.string ao) ae /\ ∃ ap, Loads P 9 ((⟨a6, 0, none⟩ : Addr).add 0) (.string ap) ae /\ R (.bool (decide (ao = ap))) ae) /\
 (false = false ->
 R (.bool false) ae))
theorem spec_l09Both_ret {m0 : ByteArray} {m1 : Bool} {a : Option Addr} {a0 a1 : Nat} {n0 : ByteArray} {n1 : Bool} {a2 : Option Addr} {a3 a4 : Nat} (h : spec_l09Both m0 m1 a a0 a1 n0 n1 a2 a3 a4 w R) : Ret P 292 [.agg #[.string m0, .bool m1, .slice a a0 a1], .agg #[.string n0, .bool n1, .slice a2 a3 a4]] w R := Ret.of_fsem Tryz.func292 rfl (Eq.mp (show _ = fsem P Tryz.f292 (fun k => []) _ R w from by kernel_rfl) h)
def spec_IntAdd (x0 : Bool) (a0 : Option Addr) (a1 a2 : Nat) (y0 : Bool) (a3 : Option Addr) (a4 a5 : Nat) (w : World) (R : Value -> World -> Prop) : Prop :=
 ∀ r wv, New w (.cells ⟨[.bool x0, .slice a0 a1 a2]⟩ 31 (0, 0)) r wv ->
 ∀ a6 a7, New wv (.cells ⟨[.bool y0, .slice a3 a4 a5]⟩ 31 (0, 0)) a6 a7 ->
 ∀ a8 a9, New a7 (.cells ⟨[.bool false, .slice none 0 0]⟩ 31 (0, 0)) a8 a9 ->
 ∃ aa ab ac ae, Loads P 31 ⟨r, 0, none⟩ (.agg #[.bool aa, .slice ab ac ae]) a9 /\ Calls P 190 ⟨[.agg #[.bool aa, .slice ab ac ae]]⟩ a9 fun e af =>
 ∃ t6, e = .returned (.bool t6) /\
 ((!t6) = true ->
 (true = true ->
 ∃ wv_4, Stores P 31 ⟨a8, 0, none⟩ (.agg #[.bool false, .slice none 0 0]) af wv_4 /\
 ∃ r0 ag ah ai, Loads P 31 ⟨a8, 0, none⟩ (.agg #[.bool r0, .slice ag ah ai]) wv_4 /\ R (.agg #[.bool r0, .slice ag ah ai]) wv_4) /\
 (true = false ->
 ∃ aj ak al am, Loads P 31 ⟨r, 0, none⟩ (.agg #[.bool aj, .slice ak al am]) af /\ ∃ an ao ap aq, Loads P 31 ⟨a6, 0, none⟩ (.agg #[.bool an, .slice ao ap aq]) af /\ Calls P 321 ⟨[.agg #[.bool aj, .slice ak al am], .agg #[.bool an, .slice ao ap aq]]⟩ af fun ar au =>
 ∃ av aw ax ay, ar = .returned (.agg #[.bool av, .slice aw ax ay]) /\
 ∃ wv_6, Stores P 31 ⟨a8, 0, none⟩ (.agg #[.bool av, .slice aw ax ay]) au wv_6 /\
 ∃ r0_1 az b0 b1, Loads P 31 ⟨a8, 0, none⟩ (.agg #[.bool r0_1, .slice az b0 b1]) wv_6 /\ R (.agg #[.bool r0_1, .slice az b0 b1]) wv_6)) /\
 ((!t6) = false ->
 ∃ b2 b3 b4 b5, Loads P 31 ⟨a6, 0, none⟩ (.agg #[.bool b2, .slice b3 b4 b5]) af /\ Calls P 190 ⟨[.agg #[.bool b2, .slice b3 b4 b5]]⟩ af fun b6 b7 =>
 ∃ b8, b6 = .returned (.bool b8) /\
 ((!b8) = true ->
 ∃ wv_8, Stores P 31 ⟨a8, 0, none⟩ (.agg #[.bool false, .slice none 0 0]) b7 wv_8 /\
 ∃ r0_2 b9 ba bb, Loads P 31 ⟨a8, 0, none⟩ (.agg #[.bool r0_2, .slice b9 ba bb]) wv_8 /\ R (.agg #[.bool r0_2, .slice b9 ba bb]) wv_8) /\
 ((!b8) = false ->
 ∃ bc bd be bf, Loads P 31 ⟨r, 0, none⟩ (.agg #[.bool bc, .slice bd be bf]) b7 /\ ∃ bg bh bi bj, Loads P 31 ⟨a6, 0, none⟩ (.agg #[.bool bg, .slice bh bi bj]) b7 /\ Calls P 321 ⟨[.agg #[.bool bc, .slice bd be bf], .agg #[.bool bg, .slice bh bi bj]]⟩ b7 fun bk bl =>
 ∃ bm bn bo bp, bk = .returned (.agg #[.bool bm, .slice bn bo bp]) /\
 ∃ wv_10, Stores P 31 ⟨a8, 0, none⟩ (.agg #[.bool bm, .slice bn bo bp]) bl wv_10 /\
 ∃ r0_3 bq br bs, Loads P 31 ⟨a8, 0, none⟩ (.agg #[.bool r0_3, .slice bq br bs]) wv_10 /\ R (.agg #[.bool r0_3, .slice bq br bs]) wv_10))
theorem spec_IntAdd_ret {x0 : Bool} {a : Option Addr} {a0 a1 : Nat} {y0 : Bool} {a2 : Option Addr} {a3 a4 : Nat} (h : spec_IntAdd x0 a a0 a1 y0 a2 a3 a4 w R) : Ret P 293 [.agg #[.bool x0, .slice a a0 a1], .agg #[.bool y0, .slice a2 a3 a4]] w R := Ret.of_fsem Tryz.func293 rfl (Eq.mp (show _ = fsem P Tryz.f293 (fun k => []) _ R w from by kernel_rfl) h)
def spec_CurKnown (code : ByteArray) (w : World) (R : Value -> World -> Prop) : Prop :=
 Calls P 331 ⟨[.string code]⟩ w fun e wv =>
 ∃ a0 a1 a2 a3, e = .returned (.agg #[.string a0, .string a1, .int .i64 a2, .int .i64 a3]) /\
 R (.bool (decide (a0 ≠ (S [])))) wv
theorem spec_CurKnown_ret {a : ByteArray} (h : spec_CurKnown a w R) : Ret P 302 [.string a] w R := Ret.of_fsem Tryz.func302 rfl (Eq.mp (show _ = fsem P Tryz.f302 (fun k => []) _ R w from by kernel_rfl) h)
def spec_l04Add (x0 : Bool) (a0 : Option Addr) (a1 a2 : Nat) (y0 : Bool) (a3 : Option Addr) (a4 a5 : Nat) (w : World) (R : Value -> World -> Prop) : Prop :=
 ∀ r wv, New w (.cells ⟨[.bool x0, .slice a0 a1 a2]⟩ 31 (0, 0)) r wv ->
 ∀ a6 a7, New wv (.cells ⟨[.bool y0, .slice a3 a4 a5]⟩ 31 (0, 0)) a6 a7 ->
 ∀ a8 a9, New a7 (.cells ⟨[.bool false, .slice none 0 0]⟩ 31 (0, 0)) a8 a9 ->
 ∃ t6, Loads P 4 ((⟨r, 0, none⟩ : Addr).add 0) (.bool t6) a9 /\ ∃ t8, Loads P 4 ((⟨a6, 0, none⟩ : Addr).add 0) (.bool t8) a9 /\ ((t6 == t8) = true ->
 ∃ aa, (∀ wv_3, Ext a9.drew wv_3 -> Loads P 4 ((⟨r, 0, none⟩ : Addr).add 0) (.bool aa) wv_3) /\ ∃ ab ac ae, (∀ wv_4, Ext a9.drew wv_4 -> Loads P 29 ((⟨r, 0, none⟩ : Addr).add 1) (.slice ab ac ae) wv_4) /\ ∃ af ag ah, (∀ wv_5, Ext a9.drew wv_5 -> Loads P 29 ((⟨a6, 0, none⟩ : Addr).add 1) (.slice af ag ah) wv_5) /\ Calls P 346 ⟨[.slice ab ac ae, .slice af ag ah]⟩ a9.drew fun e ai =>
 ∃ aj ak al, e = .returned (.slice aj ak al) /\
 Ext a9.drew ai /\ Calls P 164 ⟨[.bool aa, .slice aj ak al]⟩ ai fun am an =>
 ∃ ao ap aq ar, am = .returned (.agg #[.bool ao, .slice ap aq ar]) /\
 ∃ wv_8, Stores P 31 ⟨a8, 0, none⟩ (.agg #[.bool ao, .slice ap aq ar]) an wv_8 /\
 ∃ r0 au av aw, Loads P 31 ⟨a8, 0, none⟩ (.agg #[.bool r0, .slice au av aw]) wv_8 /\ R (.agg #[.bool r0, .slice au av aw]) wv_8) /\
 ((t6 == t8) = false ->
 ∃ ax ay az, Loads P 29 ((⟨r, 0, none⟩ : Addr).add 1) (.slice ax ay az) a9 /\ ∃ b0 b1 b2, Loads P 29 ((⟨a6, 0, none⟩ : Addr).add 1) (.slice b0 b1 b2) a9 /\ Calls P 192 ⟨[.slice ax ay az, .slice b0 b1 b2]⟩ a9 fun b3 b4 =>
 ∃ b5, b3 = .returned (.int .i64 b5) /\
 ((decide ((0 : Int) <= b5)) = true ->
 ∃ b6, (∀ wv_10, Ext b4.drew wv_10 -> Loads P 4 ((⟨r, 0, none⟩ : Addr).add 0) (.bool b6) wv_10) /\ ∃ b7 b8 b9, (∀ wv_11, Ext b4.drew wv_11 -> Loads P 29 ((⟨r, 0, none⟩ : Addr).add 1) (.slice b7 b8 b9) wv_11) /\ ∃ ba bb bc, (∀ wv_12, Ext b4.drew wv_12 -> Loads P 29 ((⟨a6, 0, none⟩ : Addr).add 1) (.slice ba bb bc) wv_12) /\ Calls P 288 ⟨[.slice b7 b8 b9, .slice ba bb bc]⟩ b4.drew fun bd be =>
 ∃ bf bg bh, bd = .returned (.slice bf bg bh) /\
 Ext b4.drew be /\ Calls P 164 ⟨[.bool b6, .slice bf bg bh]⟩ be fun bi bj =>
 ∃ bk bl bm bn, bi = .returned (.agg #[.bool bk, .slice bl bm bn]) /\
 ∃ wv_15, Stores P 31 ⟨a8, 0, none⟩ (.agg #[.bool bk, .slice bl bm bn]) bj wv_15 /\
 ∃ r0_1 bo bp bq, Loads P 31 ⟨a8, 0, none⟩ (.agg #[.bool r0_1, .slice bo bp bq]) wv_15 /\ R (.agg #[.bool r0_1, .slice bo bp bq]) wv_15) /\
 ((decide ((0 : Int) <= b5)) = false ->
 ∃ br, (∀ wv_16, Ext b4.drew wv_16 -> Loads P 4 ((⟨a6, 0, none⟩ : Addr).add 0) (.bool br) wv_16) /\ ∃ bs bt bu, (∀ wv_17, Ext b4.drew wv_17 -> Loads P 29 ((⟨a6, 0, none⟩ : Addr).add 1) (.slice bs bt bu) wv_17) /\ ∃ bv bw bx, (∀ wv_18, Ext b4.drew wv_18 -> Loads P 29 ((⟨r, 0, none⟩ : Addr).add 1) (.slice bv bw bx) wv_18) /\ Calls P 288 ⟨[.slice bs bt bu, .slice bv bw bx]⟩ b4.drew fun bz c0 =>
 ∃ c1 c2 c3, bz = .returned (.slice c1 c2 c3) /\
 Ext b4.drew c0 /\ Calls P 164 ⟨[.bool br, .slice c1 c2 c3]⟩ c0 fun c4 c5 =>
 ∃ c6 c7 c8 c9, c4 = .returned (.agg #[.bool c6, .slice c7 c8 c9]) /\
 ∃ wv_21, Stores P 31 ⟨a8, 0, none⟩ (.agg #[.bool c6, .slice c7 c8 c9]) c5 wv_21 /\
 ∃ r0_2 ca cb cc, Loads P 31 ⟨a8, 0, none⟩ (.agg #[.bool r0_2, .slice ca cb cc]) wv_21 /\ R (.agg #[.bool r0_2, .slice ca cb cc]) wv_21))
theorem spec_l04Add_ret {x0 : Bool} {a : Option Addr} {a0 a1 : Nat} {y0 : Bool} {a2 : Option Addr} {a3 a4 : Nat} (h : spec_l04Add x0 a a0 a1 y0 a2 a3 a4 w R) : Ret P 321 [.agg #[.bool x0, .slice a a0 a1], .agg #[.bool y0, .slice a2 a3 a4]] w R := Ret.of_fsem Tryz.func321 rfl (Eq.mp (show _ = fsem P Tryz.f321 (fun k => []) _ R w from by kernel_rfl) h)
def spec_l08Find (code : ByteArray) (w : World) (R : Value -> World -> Prop) : Prop :=
 ∀ r wv, New w (.cells ⟨[.string ByteArray.empty, .string ByteArray.empty, .int .i64 0, .int .i64 0]⟩ 201 (0, 0)) r wv ->
 Calls P 174 ⟨[]⟩ wv fun e a0 =>
 ∃ a1 a2 a3, e = .returned (.slice a1 a2 a3) /\
 ∃ (a4 : Int -> World -> Prop) (mu : Int -> World -> Nat), a4 0 a0 /\
 ∀ (a5 : Fr) (a6 : World) (t7 : Int), a4 t7 a6 ->
 ((decide ((t7 : Int) < ((a2 : Nat) : Int))) = true ->
 (0 <= (t7 : Int) /\ (t7 : Int) < (a2 : Nat)) /\ ptrS a1 fun ad => ∃ a7 a8 a9 aa, Loads P 201 (ad.add (t7.toNat * 4)) (.agg #[.string a7, .string a8, .int .i64 a9, .int .i64 aa]) a6 /\ ∀ ab ac, New a6 (.cells ⟨[.string ByteArray.empty, .string ByteArray.empty, .int .i64 0, .int .i64 0]⟩ 201 (0, 0)) ab ac ->
 ∃ wv_4, Stores P 201 ⟨ab, 0, none⟩ (.agg #[.string a7, .string a8, .int .i64 a9, .int .i64 aa]) ac wv_4 /\
 ∃ ae, Loads P 9 ((⟨ab, 0, none⟩ : Addr).add 0) (.string ae) wv_4 /\ ((decide (ae = code)) = true ->
 ∃ af ag ah ai, Loads P 201 ⟨ab, 0, none⟩ (.agg #[.string af, .string ag, .int .i64 ah, .int .i64 ai]) wv_4 /\ ∃ wv_5, Stores P 201 ⟨r, 0, none⟩ (.agg #[.string af, .string ag, .int .i64 ah, .int .i64 ai]) wv_4 wv_5 /\
 ∃ r0 r1 r2 r3, Loads P 201 ⟨r, 0, none⟩ (.agg #[.string r0, .string r1, .int .i64 r2, .int .i64 r3]) wv_5 /\ R (.agg #[.string r0, .string r1, .int .i64 r2, .int .i64 r3]) wv_5) /\
 ((decide (ae = code)) = false ->
 ∃ aj : Int, aj = IntKind.wrap .i64 (t7 + 1) /\ a4 aj wv_4 /\ mu aj wv_4 < mu t7 a6)) /\
 ((decide ((t7 : Int) < ((a2 : Nat) : Int))) = false ->
 ∃ wv_6, Stores P 201 ⟨r, 0, none⟩ (.agg #[.string ByteArray.empty, .string ByteArray.empty, .int .i64 0, .int .i64 0]) a6 wv_6 /\
 ∃ r0_1 r1_1 r2_1 r3_1, Loads P 201 ⟨r, 0, none⟩ (.agg #[.string r0_1, .string r1_1, .int .i64 r2_1, .int .i64 r3_1]) wv_6 /\ R (.agg #[.string r0_1, .string r1_1, .int .i64 r2_1, .int .i64 r3_1]) wv_6)
theorem spec_l08Find_ret {a : ByteArray} (h : spec_l08Find a w R) : Ret P 331 [.string a] w R := Ret.of_fsem Tryz.func331 rfl (Eq.mp (show _ = fsem P Tryz.f331 (fun k => cond (Nat.beq k 3) [(7, .one (.int .i64))] ([])) _ R w from by kernel_rfl) h)
def spec_l02Add_j2 (a0 : World) (a1 : Option Addr -> Nat -> Nat -> Int -> Int -> World -> Prop) (mu : Option Addr -> Nat -> Nat -> Int -> Int -> World -> Nat) (a2 : Option Addr) (a3 a4 : Nat) (carry i n_1 : Int) (a5 : World) (R : Value -> World -> Prop) : Prop :=
 (1000000000 : Int) ≠ 0 /\ ∃ a6 : Int, a6 = Int.tmod n_1 1000000000 /\ ∀ a7 a8, New a5 (.cells ⟨[.int .i64 a6]⟩ 3 (0, 0)) a7 a8 ->
 ∃ a9 aa ab ac, Appends P [29, 29] [.slice a2 a3 a4, (.slice (some ⟨a7, 0, none⟩) 1 1)] (.slice a9 aa ab) a8 ac /\
 (1000000000 : Int) ≠ 0 /\ ∃ ae : Int, ae = IntKind.wrap .i64 (Int.tdiv n_1 1000000000) /\ ∃ af : Int, af = IntKind.wrap .i64 (i + 1) /\ a1 a9 aa ab ae af ac /\ mu a9 aa ab ae af ac < mu a2 a3 a4 carry i a0
def spec_l02Add_j1 (a0 : Option Addr) (a1 : Nat) (a2 : World) (a3 : Option Addr -> Nat -> Nat -> Int -> Int -> World -> Prop) (mu : Option Addr -> Nat -> Nat -> Int -> Int -> World -> Nat) (a4 : Option Addr) (a5 a6 : Nat) (carry i n : Int) (a7 : World) (R : Value -> World -> Prop) : Prop :=
 ((decide ((i : Int) < ((a1 : Nat) : Int))) = true ->
 (0 <= (i : Int) /\ (i : Int) < (a1 : Nat)) /\ ptrS a0 fun a8 => ∃ a9, Loads P 3 (a8.add (i.toNat * 1)) (.int .i64 a9) a7 /\ ∃ aa : Int, aa = IntKind.wrap .i64 (n + a9) /\ spec_l02Add_j2 a2 a3 mu a4 a5 a6 carry i aa a7 R) /\
 ((decide ((i : Int) < ((a1 : Nat) : Int))) = false ->
 spec_l02Add_j2 a2 a3 mu a4 a5 a6 carry i n a7 R)
def spec_l02Add_j0 (a0 : Option Addr) (a1 : Nat) (a2 : Option Addr) (a3 : Nat) (a4 : World) (a5 : Option Addr -> Nat -> Nat -> Int -> Int -> World -> Prop) (mu : Option Addr -> Nat -> Nat -> Int -> Int -> World -> Nat) (a6 : Option Addr) (a7 a8 : Nat) (carry i : Int) (W : World) (R : Value -> World -> Prop) : Prop :=
 ((decide ((i : Int) < ((a1 : Nat) : Int))) = true ->
 (0 <= (i : Int) /\ (i : Int) < (a1 : Nat)) /\ ptrS a0 fun ad => ∃ a9, Loads P 3 (ad.add (i.toNat * 1)) (.int .i64 a9) W /\ ∃ aa : Int, aa = IntKind.wrap .i64 (carry + a9) /\ spec_l02Add_j1 a2 a3 a4 a5 mu a6 a7 a8 carry i aa W R) /\
 ((decide ((i : Int) < ((a1 : Nat) : Int))) = false ->
 spec_l02Add_j1 a2 a3 a4 a5 mu a6 a7 a8 carry i carry W R)
def spec_l02Add (a0 : Option Addr) (a1 a2 : Nat) (a3 : Option Addr) (a4 a5 : Nat) (w : World) (R : Value -> World -> Prop) : Prop :=
 ∀ r wv, New w (.cells ⟨[]⟩ 3 (0, 0)) r wv ->
 ∃ (a6 : Option Addr -> Nat -> Nat -> Int -> Int -> World -> Prop) (mu : Option Addr -> Nat -> Nat -> Int -> Int -> World -> Nat), a6 (some ⟨r, 0, none⟩) 0 0 0 0 wv /\
 ∀ (a7 : Fr) (a8 : World) (a9 : Option Addr) (aa ab : Nat) (carry i : Int), a6 a9 aa ab carry i a8 ->
 ((decide ((i : Int) < ((a1 : Nat) : Int))) = true ->
 (true = true ->
 (true = true ->
 spec_l02Add_j0 a0 a1 a3 a4 a8 a6 mu a9 aa ab carry i a8 R) /\
 (true = false ->
 R (.slice a9 aa ab) a8)) /\
 (true = false ->
 ((decide ((0 : Int) < carry)) = true ->
 spec_l02Add_j0 a0 a1 a3 a4 a8 a6 mu a9 aa ab carry i a8 R) /\
 ((decide ((0 : Int) < carry)) = false ->
 R (.slice a9 aa ab) a8))) /\
 ((decide ((i : Int) < ((a1 : Nat) : Int))) = false ->
 ((decide ((i : Int) < ((a4 : Nat) : Int))) = true ->
 (true = true ->
 spec_l02Add_j0 a0 a1 a3 a4 a8 a6 mu a9 aa ab carry i a8 R) /\
 (true = false ->
 R (.slice a9 aa ab) a8)) /\
 ((decide ((i : Int) < ((a4 : Nat) : Int))) = false ->
 ((decide ((0 : Int) < carry)) = true ->
 spec_l02Add_j0 a0 a1 a3 a4 a8 a6 mu a9 aa ab carry i a8 R) /\
 ((decide ((0 : Int) < carry)) = false ->
 R (.slice a9 aa ab) a8)))
theorem spec_l02Add_ret {a : Option Addr} {a0 a1 : Nat} {a2 : Option Addr} {a3 a4 : Nat} (h : spec_l02Add a a0 a1 a2 a3 a4 w R) : Ret P 346 [.slice a a0 a1, .slice a2 a3 a4] w R := Ret.of_fsem Tryz.func346 rfl (Eq.mp (show _ = fsem P Tryz.f346 (fun k => cond (Nat.beq k 5) [(5, .one .slice), (6, .one (.int .i64)), (7, .one (.int .i64))] ([])) _ R w from by kernel_rfl) h)
end Go.Proofs.YtbgokfhcgcoipaaGreatDoor
namespace Go.Proofs.YtbgokfhcgcoipaaGreatDoor.Sx
open Go Go.RowKit
theorem Ext.le {a b : World} (h : Ext a b) : a.heap.size <= b.heap.size := h.size
def Seg (w : World) (b off : Nat) (cs : List Value) : Prop := ∀ j v, cs[j]? = some v -> w.cell? ⟨b, off + j, none⟩ = some v
theorem Seg.nil {w : World} {b off : Nat} : Seg w b off [] := fun j v h => by simp at h
theorem Seg.drop {w : World} {b off : Nat} {cs : List Value} (h : Seg w b off cs) (k : Nat) : Seg w b (off + k) (cs.drop k) := fun j v hj => by
  rw [List.getElem?_drop] at hj
  have := h _ _ hj
  rwa [Nat.add_assoc]
theorem Seg.take {w : World} {b off : Nat} {cs : List Value} (h : Seg w b off cs) (k : Nat) : Seg w b off (cs.take k) := fun j v hj => by
  rw [List.getElem?_take] at hj
  split at hj
  · exact h _ _ hj
  · cases hj
theorem Seg.ext {w w' : World} {b off : Nat} {cs : List Value} (h : Seg w b off cs) (he : Ext w w') : Seg w' b off cs := fun j v hj => by
  have h1 := h j v hj
  rw [<- h1]
  exact he.cell (World.block_lt_of_cell? w _ h1)
theorem Seg.chg {S : List Nat} {w w' : World} {b off : Nat} {cs : List Value} (h : Seg w b off cs) (he : Chg S w w') (hb : b ∉ S) : Seg w' b off cs := fun j v hj => by
  have h1 := h j v hj
  rw [<- h1]
  exact World.cell?_of_block (he.block b (World.block_lt_of_cell? w _ h1) hb)
def Blk (w : World) (b : Nat) (e : TypeId) (xs : List Value) : Prop := w.heap[b]? = some (.cells ⟨xs⟩ e (0, 0))
theorem Blk.lt {w : World} {b : Nat} {e : TypeId} {xs : List Value} (h : Blk w b e xs) : b < w.heap.size := (Array.getElem?_eq_some_iff.1 h).1
theorem Blk.ext {w w' : World} {b : Nat} {e : TypeId} {xs : List Value} (h : Blk w b e xs) (he : Ext w w') : Blk w' b e xs := (he.block b h.lt).trans h
theorem Blk.chg {S : List Nat} {w w' : World} {b : Nat} {e : TypeId} {xs : List Value} (h : Blk w b e xs) (he : Chg S w w') (hb : b ∉ S) : Blk w' b e xs := (he.block b h.lt hb).trans h
theorem Blk.cell {w : World} {b : Nat} {e : TypeId} {xs : List Value} (h : Blk w b e xs) (j : Nat) : w.cell? ⟨b, j, none⟩ = xs[j]? := by
  rw [cell_of_row w b j _ e (0, 0) h]; simp
theorem Blk.seg {w : World} {b : Nat} {e : TypeId} {xs : List Value} (h : Blk w b e xs) : Seg w b 0 xs := fun j v hj => by rw [Nat.zero_add, h.cell, hj]
theorem New.ext {w w' : World} {o : Obj} {r : Nat} (h : New w o r w') : Ext w w' := by
  obtain ⟨rfl, rfl⟩ := h
  exact (Below.refl _ _).alloc (Nat.le_refl _) _
theorem New.size {w w' : World} {o : Obj} {r : Nat} (h : New w o r w') : w'.heap.size = w.heap.size + 1 := by
  obtain ⟨rfl, rfl⟩ := h; simp
theorem New.blk {w w' : World} {xs : List Value} {e : TypeId} {r : Nat} (h : New w (.cells ⟨xs⟩ e (0, 0)) r w') : Blk w' r e xs := by
  obtain ⟨rfl, rfl⟩ := h
  exact heap_alloc_new w _
theorem addr_add (b o k : Nat) : (⟨b, o, none⟩ : Addr).add k = ⟨b, o + k, none⟩ := Addr.add_lit b o k
section
variable {P : Program}
def cellT (P : Program) (t : TypeId) : Bool :=
  match P.underlying t, P.info? t with
  | some (.struct _), _ => false
  | some (.array _ _), _ => false
  | some _, some i => Nat.beq i.size 1
  | _, _ => false
def aggT (P : Program) (t : TypeId) (n : Nat) : Bool :=
  match P.underlying t, P.info? t with
  | some (.struct _), some i => Nat.beq i.size n
  | some (.array _ _), some i => Nat.beq i.size n
  | _, _ => false
theorem cellT_spec {t : TypeId} (h : cellT P t = true) : (∀ w, (isAgg t).run P w = .ok false w) /\ ∃ i, P.info? t = some i /\ i.size = 1 := by
  unfold cellT at h
  split at h <;> try cases h
  rename_i d i hs ha hu hi
  refine ⟨fun w => ?_, i, hi, Nat.eq_of_beq_eq_true h⟩
  unfold isAgg
  rw [Sem.run_bind, underlying_run hu w]
  cases d <;> first | rfl | (exact absurd rfl (hs _)) | (exact absurd rfl (ha _ _))
theorem aggT_spec {t : TypeId} {n : Nat} (h : aggT P t n = true) : (∀ w, (isAgg t).run P w = .ok true w) /\ ∃ i, P.info? t = some i /\ i.size = n := by
  unfold aggT at h
  split at h
  · rename_i fs i hu hi
    exact ⟨fun w => by unfold isAgg; rw [Sem.run_bind, underlying_run hu w]; rfl, i, hi, Nat.eq_of_beq_eq_true h⟩
  · rename_i k e i hu hi
    exact ⟨fun w => by unfold isAgg; rw [Sem.run_bind, underlying_run hu w]; rfl, i, hi, Nat.eq_of_beq_eq_true h⟩
  · cases h
theorem loads1 {w : World} {t : TypeId} {b o : Nat} {v : Value} (ht : cellT P t = true) (h : w.cell? ⟨b, o, none⟩ = some v) : Loads P t ⟨b, o, none⟩ v w := by
  unfold Loads loadVar
  rw [Sem.run_bind, (cellT_spec ht).1]
  simp [h]
theorem loadsA {w : World} {t : TypeId} {b o : Nat} {cs : List Value} (ht : aggT P t cs.length = true) (h : Seg w b o cs) : Loads P t ⟨b, o, none⟩ (.agg ⟨cs⟩) w := by
  obtain ⟨h1, i, hi, hn⟩ := aggT_spec ht
  unfold Loads loadVar
  rw [Sem.run_bind, h1]
  simp only [Result.andThen_ok, if_true, Sem.run_bind, sizeOf_run hi, hn]
  rw [run_loadCells_list (P := P) w ⟨b, o, none⟩ cs fun j v hv => by rw [addr_add]; exact h j v hv]
  rfl
theorem Seg.load {w : World} {t : TypeId} {b o k : Nat} {cs : List Value} {v : Value} (h : Seg w b o cs) (ht : cellT P t = true) (hx : cs[k]? = some v) : Loads P t ((⟨b, o, none⟩ : Addr).add k) v w := by
  rw [addr_add]; exact loads1 ht (h _ _ hx)
theorem Seg.loadA {w : World} {t : TypeId} {b o k : Nat} {cs xs : List Value} (h : Seg w b o cs) (ht : aggT P t xs.length = true) (hx : (cs.drop k).take xs.length = xs) : Loads P t ((⟨b, o, none⟩ : Addr).add k) (.agg ⟨xs⟩) w := by
  rw [addr_add]
  refine loadsA ht ?_
  have := (h.drop k).take xs.length
  rwa [hx] at this
theorem Blk.load {w : World} {t : TypeId} {b k : Nat} {e : TypeId} {cs : List Value} {v : Value} (h : Blk w b e cs) (ht : cellT P t = true) (hx : cs[k]? = some v) : Loads P t ((⟨b, 0, none⟩ : Addr).add k) v w :=
  h.seg.load ht hx
theorem Blk.loadA {w : World} {t : TypeId} {b k : Nat} {e : TypeId} {cs xs : List Value} (h : Blk w b e cs) (ht : aggT P t xs.length = true) (hx : (cs.drop k).take xs.length = xs) : Loads P t ((⟨b, 0, none⟩ : Addr).add k) (.agg ⟨xs⟩) w :=
  h.seg.loadA ht hx
theorem setRow_chg (w : World) (b : Nat) (cs : Array Value) : Chg [b] w (w.setRow b cs) :=
  ⟨rfl, rfl, rfl, by simp, fun k _ hk => setRow_other w b k _ (by simpa using hk)⟩
theorem Blk.store {w : World} {t : TypeId} {b k : Nat} {e : TypeId} {cs : List Value} {v : Value} (h : Blk w b e cs) (ht : cellT P t = true) (hk : k < cs.length) (hv : v.oneCell' = true) :
    ∃ w', Stores P t ((⟨b, 0, none⟩ : Addr).add k) v w w' /\ Blk w' b e (cs.set k v) /\ Chg [b] w w' /\ w'.heap.size = w.heap.size := by
  obtain ⟨_, i, hi, hn⟩ := cellT_spec ht
  have hc : v.cells = #[v] := by cases v <;> first | rfl | (simp [Value.oneCell'] at hv)
  have hst := run_storeCells_at P b k e [v] 0 ⟨cs⟩ w h (by simp only [List.length_cons, List.length_nil]; show k + 0 + 1 <= cs.length; omega) (by simpa using hv)
  refine ⟨_, ?_, setRow_heap w b ⟨cs⟩ _ e _ h, setRow_chg _ _ _, by simp⟩
  · unfold Stores storeVar
    rw [addr_add, Nat.zero_add]
    simp only [Sem.run_bind, sizeOf_run hi, Result.andThen_ok, hc, hn, List.size_toArray, List.length_cons, List.length_nil]
    simp only [Nat.zero_add, ne_eq, not_true, if_false, Sem.run_pure, Result.andThen_ok]
    rw [hst]
    congr 3
    simp only [Nat.add_zero, List.length_cons, List.length_nil, Nat.zero_add]
    rw [List.set_eq_take_append_cons_drop]
    simp [hk]
theorem Blk.storeA {w : World} {t : TypeId} {b k : Nat} {e : TypeId} {cs xs : List Value} (h : Blk w b e cs) (ht : aggT P t xs.length = true) (hk : k + xs.length <= cs.length) (hv : ∀ v ∈ xs, v.oneCell' = true) :
    ∃ w', Stores P t ((⟨b, 0, none⟩ : Addr).add k) (.agg ⟨xs⟩) w w' /\ Blk w' b e (cs.take k ++ xs ++ cs.drop (k + xs.length)) /\ Chg [b] w w' /\ w'.heap.size = w.heap.size := by
  obtain ⟨_, i, hi, hn⟩ := aggT_spec ht
  have hst := run_storeCells_at P b k e xs 0 ⟨cs⟩ w h (by simpa using hk) hv
  refine ⟨_, ?_, setRow_heap w b ⟨cs⟩ _ e _ h, setRow_chg _ _ _, by simp⟩
  unfold Stores storeVar
  rw [addr_add, Nat.zero_add]
  simp only [Sem.run_bind, sizeOf_run hi, Result.andThen_ok, Value.cells, hn, List.size_toArray]
  simp only [ne_eq, not_true, if_false, Sem.run_pure, Result.andThen_ok]
  rw [hst]
  simp
def sliceT (P : Program) (t e : TypeId) (z : Value) (size bytes : Nat) : Prop :=
 P.underlying t = some (.slice e) /\ (P.info? e).map (fun i => (i.zero, i.size, i.bytes)) = some (some z, size, bytes) /\ z.cells.size = size /\ 0 < size
def Own (w : World) (base : Nat) (e : TypeId) (size : Nat) (p : Option Addr) (n c : Nat) (xs : List Value) : Prop := w.ownsRow base e size (.slice p n c) n xs
theorem Own.nil (w : World) (base : Nat) (e : TypeId) (size : Nat) : Own w base e size none 0 0 [] := World.ownsRow_nil w base e size
theorem Own.ext {w w' : World} {base : Nat} {e : TypeId} {size : Nat} {p : Option Addr} {n c : Nat} {xs : List Value} (h : Own w base e size p n c xs) (he : Ext w w') : Own w' base e size p n c xs :=
  h.kept (row := none) ⟨he.os, he.tape, he.output, he.size, fun k hk _ => he.block k hk⟩ (by cases p <;> simp [Value.ownBlock])
theorem Own.of_blk {w : World} {base : Nat} {e : TypeId} {size : Nat} {r n : Nat} {xs : List Value} (h : Blk w r e xs) (hb : base <= r) (hl : xs.length = n * size) (hn : n <= maxLen) : Own w base e size (some ⟨r, 0, none⟩) n n xs :=
  ⟨hl, .inr ⟨r, n, ⟨xs⟩, rfl, hb, h, Nat.le_refl _, hn, by simpa using hl, by simp [<- hl]⟩⟩
theorem Own.of_blk0 {w : World} {base : Nat} {e : TypeId} {size : Nat} {r n : Nat} {xs : List Value} (h : Blk w r e xs) (hb : base <= r) (hl : xs.length = n * size) (hn : n <= maxLen) : Own w base e size (some ⟨r, 0, none⟩) 0 n [] :=
  ⟨by simp, .inr ⟨r, n, ⟨xs⟩, rfl, hb, h, Nat.zero_le _, hn, by simpa using hl, by simp⟩⟩
theorem Own.len {w : World} {base : Nat} {e : TypeId} {size : Nat} {p : Option Addr} {n c : Nat} {xs : List Value} (h : Own w base e size p n c xs) : xs.length = n * size := h.1
theorem Own.le {w : World} {base : Nat} {e : TypeId} {size : Nat} {p : Option Addr} {n c : Nat} {xs : List Value} (h : Own w base e size p n c xs) : n <= c := by
  rcases h.2 with ⟨h1, h2⟩ | ⟨g, cap, cur, h1, _, _, h3, _⟩
  · omega
  · simp only [Value.slice.injEq] at h1; omega
theorem Own.capLe {w : World} {base : Nat} {e : TypeId} {size : Nat} {p : Option Addr} {n c : Nat} {xs : List Value} (h : Own w base e size p n c xs) : c <= 9223372036854775807 := by
  rcases h.2 with ⟨h1, h2⟩ | ⟨g, cap, cur, h1, _, _, h3, h4, _⟩
  · simp only [Value.slice.injEq] at h1; omega
  · simp only [Value.slice.injEq] at h1; simp only [maxLen] at h4; omega
theorem Own.seg {w : World} {base : Nat} {e : TypeId} {size : Nat} {p : Option Addr} {n c : Nat} {xs : List Value} (h : Own w base e size p n c xs) (hn : 0 < n) : ∃ b, p = some ⟨b, 0, none⟩ /\ base <= b /\ Seg w b 0 xs := by
  rcases h.2 with ⟨h1, h2⟩ | ⟨g, cap, cur, h1, hb, hg, h3, h4, h5, h6⟩
  · omega
  · simp only [Value.slice.injEq] at h1
    refine ⟨g, h1.1, hb, fun j v hj => ?_⟩
    rw [Nat.zero_add, cell_of_row w g j cur e (0, 0) hg]
    rw [<- h6, List.getElem?_take] at hj
    split at hj
    · simpa using hj
    · cases hj
theorem Own.mono {w : World} {base base' : Nat} {e : TypeId} {size : Nat} {p : Option Addr} {n c : Nat} {xs : List Value} (h : Own w base e size p n c xs) (hb : base' <= base) : Own w base' e size p n c xs := by
  refine ⟨h.1, ?_⟩
  rcases h.2 with h1 | ⟨g, cap, cur, h1, h2, h3⟩
  · exact .inl h1
  · exact .inr ⟨g, cap, cur, h1, Nat.le_trans hb h2, h3⟩
theorem Own.append {w : World} {base : Nat} {t e : TypeId} {z : Value} {size bytes : Nat} {p : Option Addr} {n c r m mc : Nat} {xs news : List Value} (h : Own w base e size p n c xs)
    (hT : sliceT P t e z size bytes) (hb : base <= w.heap.size) (hr : Blk w r e news) (hl : news.length = m * size) (h1 : ∀ u ∈ news, u.oneCell' = true)
    (hbytes : (n + m) * bytes <= 140737488355328) (hby : 1 <= bytes) :
    ∃ p' c' w', Appends P [t, t] [.slice p n c, .slice (some ⟨r, 0, none⟩) m mc] (.slice p' (n + m) c') w w' /\ Own w' base e size p' (n + m) c' (xs ++ news) /\
      (∀ w0, Ext w0 w -> w0.heap.size <= base -> Ext w0 w') /\ (∀ b e' ys, Blk w b e' ys -> p.map (·.block) ≠ some b -> Blk w' b e' ys) /\
      (∀ b o ys, Seg w b o ys -> p.map (·.block) ≠ some b -> Seg w' b o ys) := by
  obtain ⟨hu, hi, hz, hs⟩ := hT
  cases hinf : P.info? e with
  | none => rw [hinf] at hi; cases hi
  | some i =>
    rw [hinf] at hi
    simp only [Option.map_some, Option.some.injEq, Prod.mk.injEq] at hi
    have hnm : n + m <= maxLen := by
      have : n + m <= (n + m) * bytes := Nat.le_mul_of_pos_right _ hby
      simp only [maxLen]; omega
    obtain ⟨v', w', hrun, hown, hgr, _⟩ := run_append_own (P := P) w base t 0 e i z size bytes hu hinf hi.1 hi.2.1 hi.2.2 hz hs (.slice p n c) n xs h ⟨r, 0, none⟩ m mc news hl
      (fun j u hj => by rw [addr_add, Nat.zero_add, hr.cell, hj]) h1 hnm hbytes hb
    have hlt := h.lt
    have hv : ∃ p' c', v' = .slice p' (n + m) c' := by
      rcases hown.2 with ⟨e1, e2⟩ | ⟨g, cap, cur, e1, _⟩
      · exact ⟨none, 0, by rw [e1, e2]⟩
      · exact ⟨_, _, e1⟩
    obtain ⟨p', c', rfl⟩ := hv
    have hob : (Value.slice p n c).ownBlock = p.map (·.block) := by cases p <;> rfl
    refine ⟨p', c', w', hrun, hown, ?_, ?_, ?_⟩
    · intro w0 hx hb0
      refine hx.chg (S := (p.map (·.block)).toList) ⟨hgr.os, hgr.tape, hgr.output, hgr.size, fun k hk hn => hgr.block k hk ?_⟩ ?_
      · rw [hob]; intro e; rw [<- e] at hn; simp at hn
      · intro x hx'
        have := (hlt x (by rw [hob]; cases p <;> simp_all)).1
        omega
    · intro b e' ys hy hne
      exact (hgr.block b hy.lt (by rw [hob]; exact fun e => hne e.symm)).trans hy
    · intro b o ys hy hne j v hj
      have h3 := hy j v hj
      rw [<- h3]
      exact World.cell?_of_block (hgr.block b (World.block_lt_of_cell? w _ h3) (by rw [hob]; exact fun e => hne e.symm))
end
def IntsR (w : World) (p : Option Addr) (n c : Nat) (zs : List Int) : Prop :=
 zs.length = n /\ n <= c /\ c <= 9223372036854775807 /\ (0 < n -> ∃ b off, p = some ⟨b, off, none⟩ /\ Seg w b off (zs.map (Value.int .i64)))
theorem IntsR.ext {w w' : World} {p : Option Addr} {n c : Nat} {zs : List Int} (h : IntsR w p n c zs) (he : Ext w w') : IntsR w' p n c zs :=
  ⟨h.1, h.2.1, h.2.2.1, fun hn => let ⟨b, off, hp, hs⟩ := h.2.2.2 hn; ⟨b, off, hp, hs.ext he⟩⟩
theorem IntsR.chg {S : List Nat} {w w' : World} {p : Option Addr} {n c : Nat} {zs : List Int} (h : IntsR w p n c zs) (he : Chg S w w') (hS : ∀ b, p.map (·.block) = some b -> b ∉ S) : IntsR w' p n c zs :=
  ⟨h.1, h.2.1, h.2.2.1, fun hn => let ⟨b, off, hp, hs⟩ := h.2.2.2 hn; ⟨b, off, hp, hs.chg he (hS b (by rw [hp]; rfl))⟩⟩
theorem IntsR.nil (w : World) (p : Option Addr) {c : Nat} (hc : c <= 9223372036854775807) : IntsR w p 0 c [] := ⟨rfl, Nat.zero_le _, hc, fun h => absurd h (by omega)⟩
theorem Own.ints {w : World} {base : Nat} {e : TypeId} {p : Option Addr} {n c : Nat} {zs : List Int} (h : Own w base e 1 p n c (zs.map (Value.int .i64))) : IntsR w p n c zs :=
  ⟨by simpa using h.len, h.le, h.capLe, fun hn => let ⟨b, hp, _, hs⟩ := h.seg hn; ⟨b, 0, hp, hs⟩⟩
theorem IntsR.at {P : Program} {w : World} {p : Option Addr} {n c k : Nat} {zs : List Int} (h : IntsR w p n c zs) {t : TypeId} (ht : cellT P t = true) (hk : k < n) :
    ∃ a, p = some a /\ Loads P t (a.add (k * 1)) (.int .i64 (zs[k]'(by rw [h.1]; exact hk))) w := by
  obtain ⟨b, off, hp, hs⟩ := h.2.2.2 (by omega)
  refine ⟨_, hp, ?_⟩
  rw [Nat.mul_one]
  exact hs.load ht (by simp [List.getElem?_eq_getElem (by rw [h.1]; exact hk : k < zs.length)])
theorem wrap64 {e : Int} (h1 : -9223372036854775808 <= e) (h2 : e <= 9223372036854775807) : IntKind.wrap .i64 e = e := by
  simp only [IntKind.wrap, IntKind.bits, IntKind.signed]
  by_cases h0 : 0 <= e
  · have : e % (2 ^ 64 : Int) = e := Int.emod_eq_of_lt h0 (by omega)
    simp [this]; omega
  · have : e % (2 ^ 64 : Int) = e + 2 ^ 64 := by omega
    simp [this]; omega
theorem exW {e : Int} {Q : Int -> Prop} (h : -9223372036854775808 <= e /\ e <= 9223372036854775807) (hq : Q e) : ∃ z, z = IntKind.wrap .i64 e /\ Q z := ⟨e, (wrap64 h.1 h.2).symm, hq⟩
theorem ifD {p : Prop} [Decidable p] {A B : Prop} (ha : p -> A) (hb : ¬ p -> B) : (decide p = true -> A) /\ (decide p = false -> B) :=
  ⟨fun h => ha (of_decide_eq_true h), fun h => hb (of_decide_eq_false h)⟩
theorem ifN {b : Bool} {A B : Prop} (ha : b = false -> A) (hb : b = true -> B) : ((!b) = true -> A) /\ ((!b) = false -> B) := ⟨fun h => ha (by simpa using h), fun h => hb (by simpa using h)⟩
theorem ifT {A B : Prop} (ha : A) : (true = true -> A) /\ (true = false -> B) := ⟨fun _ => ha, fun h => nomatch h⟩
theorem ifF {A B : Prop} (hb : B) : (false = true -> A) /\ (false = false -> B) := ⟨fun h => (nomatch h), fun _ => hb⟩
theorem zeroRow_int (k : IntKind) (z : Int) (n : Nat) : zeroRow (.int k z) n = List.replicate n (.int k z) := by
  unfold zeroRow
  apply List.ext_getElem
  · simp
  · intro i h1 h2
    simp [Value.cells, Nat.mod_one]
end Go.Proofs.YtbgokfhcgcoipaaGreatDoor.Sx
namespace Go.Proofs.YtbgokfhcgcoipaaGreatDoor.Sx
open Go Go.RowKit
inductive D0 where
  | int (n : Int) | bool (b : Bool) | str (s : ByteArray) | ints (l : List Int)
  deriving DecidableEq
inductive C0 where
  | int | bool | str | ints
  deriving DecidableEq
def D0.code : D0 -> C0
  | .int _ => .int
  | .bool _ => .bool
  | .str _ => .str
  | .ints _ => .ints
def Rep0 (w : World) (v : Value) : D0 -> Prop
  | .int n => v = .int .i64 n
  | .bool b => v = .bool b
  | .str s => v = .string s
  | .ints zs => ∃ p n c, v = .slice p n c /\ IntsR w p n c zs
def Reps (w : World) : List Value -> List D0 -> Prop
  | [], [] => True
  | v :: vs, d :: ds => Rep0 w v d /\ Reps w vs ds
  | _, _ => False
theorem Rep0.ext {w w' : World} {v : Value} {d : D0} (h : Rep0 w v d) (he : Ext w w') : Rep0 w' v d := by
  cases d <;> simp only [Rep0] at h ⊢ <;> try exact h
  obtain ⟨p, n, c, hv, hi⟩ := h
  exact ⟨p, n, c, hv, hi.ext he⟩
theorem Reps.ext {w w' : World} : ∀ {vs : List Value} {ds : List D0}, Reps w vs ds -> Ext w w' -> Reps w' vs ds
  | [], [], _, _ => trivial
  | [], _ :: _, h, _ => h.elim
  | _ :: _, [], h, _ => h.elim
  | _ :: _, _ :: _, h, he => ⟨h.1.ext he, Reps.ext h.2 he⟩
theorem Reps.len {w : World} : ∀ {vs : List Value} {ds : List D0}, Reps w vs ds -> vs.length = ds.length
  | [], [], _ => rfl
  | [], _ :: _, h => h.elim
  | _ :: _, [], h => h.elim
  | _ :: _, _ :: _, h => by simp [Reps.len h.2]
theorem Reps.append {w : World} : ∀ {vs us : List Value} {ds es : List D0}, Reps w vs ds -> Reps w us es -> Reps w (vs ++ us) (ds ++ es)
  | [], _, [], _, _, k => k
  | [], _, _ :: _, _, h, _ => h.elim
  | _ :: _, _, [], _, h, _ => h.elim
  | _ :: _, _, _ :: _, _, h, k => ⟨h.1, Reps.append h.2 k⟩
theorem Reps.one {w : World} {vs : List Value} {ds : List D0} (h : Reps w vs ds) (h1 : ∀ v ∈ vs, v.oneCell' = true -> True) : True := trivial
theorem Rep0.cell1 {w : World} {v : Value} {d : D0} (h : Rep0 w v d) : v.oneCell' = true := by
  cases d <;> simp only [Rep0] at h
  case ints l => obtain ⟨p, n, c, hv, _⟩ := h; rw [hv]; rfl
  all_goals (rw [h]; rfl)
theorem Reps.cells1 {w : World} : ∀ {vs : List Value} {ds : List D0}, Reps w vs ds -> ∀ v ∈ vs, v.oneCell' = true
  | [], [], _, v, hv => by simp at hv
  | [], _ :: _, h, _, _ => h.elim
  | _ :: _, [], h, _, _ => h.elim
  | x :: xs, d :: ds, h, v, hv => by
    rcases List.mem_cons.1 hv with e | e
    · rw [e]; exact h.1.cell1
    · exact Reps.cells1 h.2 v e
theorem Reps.int {w : World} {vs : List Value} {ds : List D0} {cs : List C0} (h : Reps w vs ds) (hc : ds.map D0.code = .int :: cs) : ∃ n us es, vs = .int .i64 n :: us /\ ds = .int n :: es /\ Reps w us es /\ es.map D0.code = cs := by
  cases ds with
  | nil => simp at hc
  | cons d es =>
    cases vs with
    | nil => exact h.elim
    | cons v us =>
      simp only [List.map_cons, List.cons.injEq] at hc
      cases d <;> simp [D0.code] at hc
      rename_i n
      exact ⟨n, us, es, by rw [show v = _ from h.1], rfl, h.2, hc⟩
theorem Reps.bool {w : World} {vs : List Value} {ds : List D0} {cs : List C0} (h : Reps w vs ds) (hc : ds.map D0.code = .bool :: cs) : ∃ b us es, vs = .bool b :: us /\ ds = .bool b :: es /\ Reps w us es /\ es.map D0.code = cs := by
  cases ds with
  | nil => simp at hc
  | cons d es =>
    cases vs with
    | nil => exact h.elim
    | cons v us =>
      simp only [List.map_cons, List.cons.injEq] at hc
      cases d <;> simp [D0.code] at hc
      rename_i n
      exact ⟨n, us, es, by rw [show v = _ from h.1], rfl, h.2, hc⟩
theorem Reps.str {w : World} {vs : List Value} {ds : List D0} {cs : List C0} (h : Reps w vs ds) (hc : ds.map D0.code = .str :: cs) : ∃ s us es, vs = .string s :: us /\ ds = .str s :: es /\ Reps w us es /\ es.map D0.code = cs := by
  cases ds with
  | nil => simp at hc
  | cons d es =>
    cases vs with
    | nil => exact h.elim
    | cons v us =>
      simp only [List.map_cons, List.cons.injEq] at hc
      cases d <;> simp [D0.code] at hc
      rename_i n
      exact ⟨n, us, es, by rw [show v = _ from h.1], rfl, h.2, hc⟩
theorem Reps.ints {w : World} {vs : List Value} {ds : List D0} {cs : List C0} (h : Reps w vs ds) (hc : ds.map D0.code = .ints :: cs) :
    ∃ p n c zs us es, vs = .slice p n c :: us /\ ds = .ints zs :: es /\ IntsR w p n c zs /\ Reps w us es /\ es.map D0.code = cs := by
  cases ds with
  | nil => simp at hc
  | cons d es =>
    cases vs with
    | nil => exact h.elim
    | cons v us =>
      simp only [List.map_cons, List.cons.injEq] at hc
      cases d <;> simp [D0.code] at hc
      rename_i zs
      obtain ⟨p, n, c, hv, hi⟩ := h.1
      exact ⟨p, n, c, zs, us, es, by rw [hv], rfl, hi, h.2, hc⟩
theorem Reps.done {w : World} {vs : List Value} {ds : List D0} (h : Reps w vs ds) (hc : ds.map D0.code = []) : vs = [] /\ ds = [] := by
  have : ds = [] := by simpa using hc
  subst this
  cases vs with
  | nil => exact ⟨rfl, rfl⟩
  | cons _ _ => exact h.elim
def RowsR (w : World) (k : Nat) (p : Option Addr) (n c : Nat) (l : List (List D0)) : Prop :=
 l.length = n /\ n <= c /\ c <= 9223372036854775807 /\ (0 < n -> ∃ b off, p = some ⟨b, off, none⟩ /\ ∀ i x, l[i]? = some x -> ∃ cs, cs.length = k /\ Reps w cs x /\ Seg w b (off + i * k) cs)
theorem RowsR.ext {w w' : World} {k : Nat} {p : Option Addr} {n c : Nat} {l : List (List D0)} (h : RowsR w k p n c l) (he : Ext w w') : RowsR w' k p n c l :=
  ⟨h.1, h.2.1, h.2.2.1, fun hn => let ⟨b, off, hp, hs⟩ := h.2.2.2 hn; ⟨b, off, hp, fun i x hx => let ⟨cs, h1, h2, h3⟩ := hs i x hx; ⟨cs, h1, h2.ext he, h3.ext he⟩⟩⟩
theorem RowsR.nil (w : World) (k : Nat) (p : Option Addr) {c : Nat} (hc : c <= 9223372036854775807) : RowsR w k p 0 c [] := ⟨rfl, Nat.zero_le _, hc, fun h => absurd h (by omega)⟩
theorem RowsR.at {P : Program} {w : World} {k : Nat} {p : Option Addr} {n c i : Nat} {l : List (List D0)} (h : RowsR w k p n c l) {t : TypeId} (ht : aggT P t k = true) (hi : i < n) :
    ∃ a cs, p = some a /\ cs.length = k /\ Reps w cs (l[i]'(by rw [h.1]; exact hi)) /\ Loads P t (a.add (i * k)) (.agg ⟨cs⟩) w := by
  obtain ⟨b, off, hp, hs⟩ := h.2.2.2 (by omega)
  obtain ⟨cs, h1, h2, h3⟩ := hs i _ (List.getElem?_eq_getElem (by rw [h.1]; exact hi))
  refine ⟨_, cs, hp, h1, h2, ?_⟩
  rw [addr_add]
  exact loadsA (by rw [h1]; exact ht) h3
def D0.bulk : D0 -> Nat
  | .str s => s.size
  | .ints l => l.length
  | _ => 0
def bulks (ds : List D0) : Nat := (ds.map D0.bulk).sum
def D0.ok : D0 -> Prop
  | .int n => -9223372036854775808 <= n /\ n <= 9223372036854775807
  | .str s => s.size <= 9223372036854775807
  | .ints l => l.length <= 9223372036854775807
  | .bool _ => True
end Go.Proofs.YtbgokfhcgcoipaaGreatDoor.Sx
namespace Go.Proofs.YtbgokfhcgcoipaaGreatDoor.Sx
open Go Go.RowKit
section
variable {P : Program}
theorem Blk.load0 {w : World} {t : TypeId} {b k : Nat} {e : TypeId} {cs : List Value} {v : Value} (h : Blk w b e cs) (ht : cellT P t = true) (hx : cs[k]? = some v) : Loads P t ⟨b, k, none⟩ v w :=
  loads1 ht (by rw [h.cell]; exact hx)
theorem Blk.loadA0 {w : World} {t : TypeId} {b : Nat} {e : TypeId} {cs : List Value} (h : Blk w b e cs) (ht : aggT P t cs.length = true) : Loads P t ⟨b, 0, none⟩ (.agg ⟨cs⟩) w :=
  loadsA ht h.seg
theorem Blk.store0 {w : World} {t : TypeId} {b k : Nat} {e : TypeId} {cs : List Value} {v : Value} (h : Blk w b e cs) (ht : cellT P t = true) (hk : k < cs.length) (hv : v.oneCell' = true) :
    ∃ w', Stores P t ⟨b, k, none⟩ v w w' /\ Blk w' b e (cs.set k v) /\ Chg [b] w w' /\ w'.heap.size = w.heap.size := by
  have := h.store (P := P) ht hk hv
  rw [addr_add, Nat.zero_add] at this
  exact this
theorem Blk.storeA0 {w : World} {t : TypeId} {b : Nat} {e : TypeId} {cs xs : List Value} (h : Blk w b e cs) (ht : aggT P t xs.length = true) (hk : xs.length = cs.length) (hv : ∀ v ∈ xs, v.oneCell' = true) :
    ∃ w', Stores P t ⟨b, 0, none⟩ (.agg ⟨xs⟩) w w' /\ Blk w' b e xs /\ Chg [b] w w' /\ w'.heap.size = w.heap.size := by
  obtain ⟨w', h1, h2, h3, h4⟩ := h.storeA (P := P) (k := 0) ht (by omega) hv
  rw [addr_add, Nat.zero_add] at h1
  refine ⟨w', h1, ?_, h3, h4⟩
  rw [List.take_zero, List.nil_append, Nat.zero_add, hk, List.drop_length, List.append_nil] at h2
  exact h2
end
def Own0 (w : World) (B : Nat) (v : Value) : D0 -> List Nat -> Prop
  | .int n, f => v = .int .i64 n /\ f = []
  | .bool b, f => v = .bool b /\ f = []
  | .str s, f => v = .string s /\ f = []
  | .ints zs, f => ∃ p n c, v = .slice p n c /\ Own w B T_int 1 p n c (zs.map (Value.int .i64)) /\ f = (p.map (·.block)).toList
def Owns (w : World) (B : Nat) : List Value -> List D0 -> List Nat -> Prop
  | [], [], f => f = []
  | v :: vs, d :: ds, f => ∃ f1 f2, f = f1 ++ f2 /\ Own0 w B v d f1 /\ Owns w B vs ds f2
  | _, _, _ => False
theorem Own0.rep {w : World} {B : Nat} {v : Value} {d : D0} {f : List Nat} (h : Own0 w B v d f) : Rep0 w v d := by
  cases d <;> simp only [Own0] at h <;> simp only [Rep0]
  case ints zs => obtain ⟨p, n, c, hv, ho, _⟩ := h; exact ⟨p, n, c, hv, ho.ints⟩
  all_goals exact h.1
theorem Owns.reps {w : World} {B : Nat} : ∀ {vs : List Value} {ds : List D0} {f : List Nat}, Owns w B vs ds f -> Reps w vs ds
  | [], [], _, _ => trivial
  | [], _ :: _, _, h => h.elim
  | _ :: _, [], _, h => h.elim
  | _ :: _, _ :: _, _, h => by
    obtain ⟨f1, f2, _, h1, h2⟩ := h
    exact ⟨h1.rep, Owns.reps h2⟩
theorem Own0.lt {w : World} {B : Nat} {v : Value} {d : D0} {f : List Nat} (h : Own0 w B v d f) : ∀ k ∈ f, B <= k /\ k < w.heap.size := by
  cases d <;> simp only [Own0] at h
  case ints zs =>
    obtain ⟨p, n, c, hv, ho, hf⟩ := h
    intro k hk
    rw [hf] at hk
    exact World.ownsRow.lt ho k (by cases p <;> simp_all [Value.ownBlock])
  all_goals (intro k hk; rw [h.2] at hk; simp at hk)
theorem Owns.lt {w : World} {B : Nat} : ∀ {vs : List Value} {ds : List D0} {f : List Nat}, Owns w B vs ds f -> ∀ k ∈ f, B <= k /\ k < w.heap.size
  | [], [], _, h, k, hk => by rw [h] at hk; simp at hk
  | [], _ :: _, _, h, _, _ => h.elim
  | _ :: _, [], _, h, _, _ => h.elim
  | _ :: _, _ :: _, _, h, k, hk => by
    obtain ⟨f1, f2, rfl, h1, h2⟩ := h
    rcases List.mem_append.1 hk with hk | hk
    · exact h1.lt k hk
    · exact Owns.lt h2 k hk
theorem Own0.ext {w w' : World} {B : Nat} {v : Value} {d : D0} {f : List Nat} (h : Own0 w B v d f) (he : Ext w w') : Own0 w' B v d f := by
  cases d <;> simp only [Own0] at h ⊢ <;> try exact h
  obtain ⟨p, n, c, hv, ho, hf⟩ := h
  exact ⟨p, n, c, hv, ho.ext he, hf⟩
theorem Owns.ext {w w' : World} {B : Nat} : ∀ {vs : List Value} {ds : List D0} {f : List Nat}, Owns w B vs ds f -> Ext w w' -> Owns w' B vs ds f
  | [], [], _, h, _ => h
  | [], _ :: _, _, h, _ => h.elim
  | _ :: _, [], _, h, _ => h.elim
  | _ :: _, _ :: _, _, h, he => by
    obtain ⟨f1, f2, rfl, h1, h2⟩ := h
    exact ⟨f1, f2, rfl, h1.ext he, Owns.ext h2 he⟩
theorem Own.chg {S : List Nat} {w w' : World} {B : Nat} {e : TypeId} {size : Nat} {p : Option Addr} {n c : Nat} {xs : List Value} (h : Own w B e size p n c xs) (he : Chg S w w') (hS : ∀ k, p.map (·.block) = some k -> k ∉ S) : Own w' B e size p n c xs := by
  refine ⟨h.1, ?_⟩
  rcases h.2 with h1 | ⟨g, cap, cur, h1, h2, h3, h4⟩
  · exact .inl h1
  · refine .inr ⟨g, cap, cur, h1, h2, ?_, h4⟩
    simp only [Value.slice.injEq] at h1
    rw [he.block g (Array.getElem?_eq_some_iff.1 h3).1 (hS g (by rw [h1.1]; rfl))]
    exact h3
theorem Own0.chg {S : List Nat} {w w' : World} {B : Nat} {v : Value} {d : D0} {f : List Nat} (h : Own0 w B v d f) (he : Chg S w w') (hS : ∀ k ∈ f, k ∉ S) : Own0 w' B v d f := by
  cases d <;> simp only [Own0] at h ⊢ <;> try exact h
  obtain ⟨p, n, c, hv, ho, hf⟩ := h
  exact ⟨p, n, c, hv, ho.chg he (fun k hk => hS k (by rw [hf, hk]; simp)), hf⟩
theorem Owns.chg {S : List Nat} {w w' : World} {B : Nat} : ∀ {vs : List Value} {ds : List D0} {f : List Nat}, Owns w B vs ds f -> Chg S w w' -> (∀ k ∈ f, k ∉ S) -> Owns w' B vs ds f
  | [], [], _, h, _, _ => h
  | [], _ :: _, _, h, _, _ => h.elim
  | _ :: _, [], _, h, _, _ => h.elim
  | _ :: _, _ :: _, _, h, he, hS => by
    obtain ⟨f1, f2, rfl, h1, h2⟩ := h
    exact ⟨f1, f2, rfl, h1.chg he (fun k hk => hS k (by simp [hk])), Owns.chg h2 he (fun k hk => hS k (by simp [hk]))⟩
theorem Owns.chg1 {r : Nat} {w w' : World} {B : Nat} {vs : List Value} {ds : List D0} {f : List Nat} (h : Owns w B vs ds f) (he : Chg [r] w w') (hr : r < B) : Owns w' B vs ds f :=
  h.chg he fun k hk hm => by
    have := (h.lt k hk).1
    simp at hm; omega
theorem Own0.mono {w : World} {B B' : Nat} {v : Value} {d : D0} {f : List Nat} (h : Own0 w B v d f) (hb : B' <= B) : Own0 w B' v d f := by
  cases d <;> simp only [Own0] at h ⊢ <;> try exact h
  obtain ⟨p, n, c, hv, ho, hf⟩ := h
  exact ⟨p, n, c, hv, ho.mono hb, hf⟩
theorem Owns.mono {w : World} {B B' : Nat} (hb : B' <= B) : ∀ {vs : List Value} {ds : List D0} {f : List Nat}, Owns w B vs ds f -> Owns w B' vs ds f
  | [], [], _, h => h
  | [], _ :: _, _, h => h.elim
  | _ :: _, [], _, h => h.elim
  | _ :: _, _ :: _, _, h => by
    obtain ⟨f1, f2, rfl, h1, h2⟩ := h
    exact ⟨f1, f2, rfl, h1.mono hb, Owns.mono hb h2⟩
theorem Owns.append {w : World} {B : Nat} : ∀ {vs us : List Value} {ds es : List D0} {f g : List Nat}, Owns w B vs ds f -> Owns w B us es g -> Owns w B (vs ++ us) (ds ++ es) (f ++ g)
  | [], _, [], _, f, g, h, k => by rw [show f = [] from h]; exact k
  | [], _, _ :: _, _, _, _, h, _ => h.elim
  | _ :: _, _, [], _, _, _, h, _ => h.elim
  | _ :: _, _, _ :: _, _, _, g, h, k => by
    obtain ⟨f1, f2, rfl, h1, h2⟩ := h
    exact ⟨f1, f2 ++ g, by simp, h1, Owns.append h2 k⟩
theorem Owns.nil (w : World) (B : Nat) : Owns w B [] [] [] := rfl
theorem Owns.bool (w : World) (B : Nat) (b : Bool) : Owns w B [.bool b] [.bool b] [] := ⟨[], [], rfl, ⟨rfl, rfl⟩, rfl⟩
theorem Owns.int (w : World) (B : Nat) (n : Int) : Owns w B [.int .i64 n] [.int n] [] := ⟨[], [], rfl, ⟨rfl, rfl⟩, rfl⟩
theorem Owns.str (w : World) (B : Nat) (s : ByteArray) : Owns w B [.string s] [.str s] [] := ⟨[], [], rfl, ⟨rfl, rfl⟩, rfl⟩
theorem Owns.ints {w : World} {B : Nat} {p : Option Addr} {n c : Nat} {zs : List Int} (h : Own w B T_int 1 p n c (zs.map (Value.int .i64))) : Owns w B [.slice p n c] [.ints zs] (p.map (·.block)).toList :=
  ⟨_, [], by simp, ⟨p, n, c, rfl, h, rfl⟩, rfl⟩
theorem nodup_append {f g : List Nat} {m : Nat} (hf : f.Nodup) (hg : g.Nodup) (h1 : ∀ k ∈ f, k < m) (h2 : ∀ k ∈ g, m <= k) : (f ++ g).Nodup := by
  rw [List.nodup_append]
  exact ⟨hf, hg, fun a ha b hb e => by have := h1 a ha; have := h2 b hb; omega⟩
theorem Blk.loadAt {P : Program} {w : World} {t : TypeId} {b : Nat} {e : TypeId} {cs : List Value} {v : Value} {a : Addr} (k : Nat) (h : Blk w b e cs) (ha : a = ⟨b, k, none⟩) (ht : cellT P t = true) (hx : cs[k]? = some v) : Loads P t a v w := by
  subst ha; exact h.load0 ht hx
theorem Blk.loadAAt {P : Program} {w : World} {t : TypeId} {b : Nat} {e : TypeId} {cs : List Value} {a : Addr} (k : Nat) (xs : List Value) (h : Blk w b e cs) (ha : a = ⟨b, k, none⟩) (ht : aggT P t xs.length = true) (hx : (cs.drop k).take xs.length = xs) : Loads P t a (.agg ⟨xs⟩) w := by
  subst ha
  have := h.loadA (P := P) (k := k) ht hx
  rwa [addr_add, Nat.zero_add] at this
theorem Seg.loadAt {P : Program} {w : World} {t : TypeId} {b o : Nat} {cs : List Value} {v : Value} {a : Addr} (k : Nat) (h : Seg w b o cs) (ha : a = ⟨b, o + k, none⟩) (ht : cellT P t = true) (hx : cs[k]? = some v) : Loads P t a v w := by
  subst ha; exact loads1 ht (h _ _ hx)
theorem Seg.loadAAt {P : Program} {w : World} {t : TypeId} {b o : Nat} {cs : List Value} {a : Addr} (k : Nat) (xs : List Value) (h : Seg w b o cs) (ha : a = ⟨b, o + k, none⟩) (ht : aggT P t xs.length = true) (hx : (cs.drop k).take xs.length = xs) : Loads P t a (.agg ⟨xs⟩) w := by
  subst ha
  have := h.loadA (P := P) (k := k) ht hx
  rwa [addr_add] at this
theorem New.fill {P : Program} {w w1 : World} {zs : List Value} {e : TypeId} {r : Nat} (hn : New w (.cells ⟨zs⟩ e (0, 0)) r w1) {t : TypeId} {xs : List Value} (hv : ∀ v ∈ xs, v.oneCell' = true) (ht : aggT P t xs.length = true) (hl : xs.length = zs.length) :
    ∃ w2, Stores P t ⟨r, 0, none⟩ (.agg ⟨xs⟩) w1 w2 /\ Blk w2 r e xs /\ Ext w w2 := by
  obtain ⟨w2, st, hb, ch, sz⟩ := hn.blk.storeA0 (P := P) (t := t) ht hl hv
  exact ⟨w2, st, hb, hn.ext.chg ch (by have := hn.r_eq; simp; omega)⟩
def AllO (w : World) (B k : Nat) : List (List Value) -> List (List D0) -> List (List Nat) -> Prop
  | [], [], [] => True
  | cs :: css, x :: l, f :: fs => cs.length = k /\ Owns w B cs x f /\ AllO w B k css l fs
  | _, _, _ => False
theorem AllO.ext {w w' : World} {B k : Nat} : ∀ {css : List (List Value)} {l : List (List D0)} {fs : List (List Nat)}, AllO w B k css l fs -> Ext w w' -> AllO w' B k css l fs
  | [], [], [], _, _ => trivial
  | _ :: _, _ :: _, _ :: _, h, he => ⟨h.1, h.2.1.ext he, AllO.ext h.2.2 he⟩
  | [], [], _ :: _, h, _ => h.elim
  | [], _ :: _, _, h, _ => h.elim
  | _ :: _, [], _, h, _ => h.elim
  | _ :: _, _ :: _, [], h, _ => h.elim
theorem AllO.chg {S : List Nat} {w w' : World} {B k : Nat} : ∀ {css : List (List Value)} {l : List (List D0)} {fs : List (List Nat)}, AllO w B k css l fs -> Chg S w w' -> (∀ x ∈ fs.flatten, x ∉ S) -> AllO w' B k css l fs
  | [], [], [], _, _, _ => trivial
  | _ :: _, _ :: _, _ :: _, h, he, hS => ⟨h.1, h.2.1.chg he (fun x hx => hS x (by simp [hx])), AllO.chg h.2.2 he (fun x hx => hS x (by rw [List.flatten_cons]; exact List.mem_append_right _ hx))⟩
  | [], [], _ :: _, h, _, _ => h.elim
  | [], _ :: _, _, h, _, _ => h.elim
  | _ :: _, [], _, h, _, _ => h.elim
  | _ :: _, _ :: _, [], h, _, _ => h.elim
theorem AllO.mono {w : World} {B B' k : Nat} (hb : B' <= B) : ∀ {css : List (List Value)} {l : List (List D0)} {fs : List (List Nat)}, AllO w B k css l fs -> AllO w B' k css l fs
  | [], [], [], _ => trivial
  | _ :: _, _ :: _, _ :: _, h => ⟨h.1, h.2.1.mono hb, AllO.mono hb h.2.2⟩
  | [], [], _ :: _, h => h.elim
  | [], _ :: _, _, h => h.elim
  | _ :: _, [], _, h => h.elim
  | _ :: _, _ :: _, [], h => h.elim
theorem AllO.lt {w : World} {B k : Nat} : ∀ {css : List (List Value)} {l : List (List D0)} {fs : List (List Nat)}, AllO w B k css l fs -> ∀ x ∈ fs.flatten, B <= x /\ x < w.heap.size
  | [], [], [], _, x, hx => by simp at hx
  | _ :: _, _ :: _, _ :: _, h, x, hx => by
    rw [List.flatten_cons, List.mem_append] at hx
    rcases hx with hx | hx
    · exact h.2.1.lt x hx
    · exact AllO.lt h.2.2 x hx
  | [], [], _ :: _, h, _, _ => h.elim
  | [], _ :: _, _, h, _, _ => h.elim
  | _ :: _, [], _, h, _, _ => h.elim
  | _ :: _, _ :: _, [], h, _, _ => h.elim
theorem AllO.snoc {w : World} {B k : Nat} {cs : List Value} {x : List D0} {f : List Nat} (hk : cs.length = k) (ho : Owns w B cs x f) : ∀ {css : List (List Value)} {l : List (List D0)} {fs : List (List Nat)}, AllO w B k css l fs -> AllO w B k (css ++ [cs]) (l ++ [x]) (fs ++ [f])
  | [], [], [], _ => ⟨hk, ho, trivial⟩
  | _ :: _, _ :: _, _ :: _, h => ⟨h.1, h.2.1, AllO.snoc hk ho h.2.2⟩
  | [], [], _ :: _, h => h.elim
  | [], _ :: _, _, h => h.elim
  | _ :: _, [], _, h => h.elim
  | _ :: _, _ :: _, [], h => h.elim
theorem AllO.len {w : World} {B k : Nat} : ∀ {css : List (List Value)} {l : List (List D0)} {fs : List (List Nat)}, AllO w B k css l fs -> css.length = l.length /\ css.flatten.length = l.length * k
  | [], [], [], _ => ⟨rfl, by simp⟩
  | cs :: css, x :: l, _ :: _, h => by
    have := AllO.len h.2.2
    refine ⟨by simp [this.1], ?_⟩
    rw [List.flatten_cons, List.length_append, this.2, h.1, List.length_cons, Nat.succ_mul, Nat.add_comm]
  | [], [], _ :: _, h => h.elim
  | [], _ :: _, _, h => h.elim
  | _ :: _, [], _, h => h.elim
  | _ :: _, _ :: _, [], h => h.elim
theorem AllO.cells1 {w : World} {B k : Nat} : ∀ {css : List (List Value)} {l : List (List D0)} {fs : List (List Nat)}, AllO w B k css l fs -> ∀ v ∈ css.flatten, v.oneCell' = true
  | [], [], [], _, v, hv => by simp at hv
  | _ :: _, _ :: _, _ :: _, h, v, hv => by
    rw [List.flatten_cons, List.mem_append] at hv
    rcases hv with hv | hv
    · exact h.2.1.reps.cells1 v hv
    · exact AllO.cells1 h.2.2 v hv
  | [], [], _ :: _, h, _, _ => h.elim
  | [], _ :: _, _, h, _, _ => h.elim
  | _ :: _, [], _, h, _, _ => h.elim
  | _ :: _, _ :: _, [], h, _, _ => h.elim
theorem AllO.at {w : World} {B k : Nat} : ∀ {css : List (List Value)} {l : List (List D0)} {fs : List (List Nat)}, AllO w B k css l fs -> ∀ i x, l[i]? = some x -> ∃ cs, cs.length = k /\ Reps w cs x /\ (css.flatten.drop (i * k)).take k = cs
  | [], [], [], _, i, x, hx => by simp at hx
  | cs :: css, y :: l, _ :: _, h, i, x, hx => by
    cases i with
    | zero =>
      simp only [List.getElem?_cons_zero, Option.some.injEq] at hx
      subst hx
      refine ⟨cs, h.1, h.2.1.reps, ?_⟩
      rw [Nat.zero_mul, List.drop_zero, List.flatten_cons, <- h.1, List.take_left]
    | succ i =>
      simp only [List.getElem?_cons_succ] at hx
      obtain ⟨c, h1, h2, h3⟩ := AllO.at h.2.2 i x hx
      refine ⟨c, h1, h2, ?_⟩
      rw [List.flatten_cons, Nat.succ_mul, Nat.add_comm, <- List.drop_drop, <- h.1, List.drop_left, h.1]
      exact h3
  | [], [], _ :: _, h, _, _, _ => h.elim
  | [], _ :: _, _, h, _, _, _ => h.elim
  | _ :: _, [], _, h, _, _, _ => h.elim
  | _ :: _, _ :: _, [], h, _, _, _ => h.elim
def OwnRows (w : World) (B : Nat) (e : TypeId) (k : Nat) (p : Option Addr) (n c : Nat) (l : List (List D0)) (f : List Nat) : Prop :=
 l.length = n /\ ∃ css fs, AllO w B k css l fs /\ Own w B e k p n c css.flatten /\ f = (p.map (·.block)).toList ++ fs.flatten /\ f.Nodup
theorem OwnRows.rows {w : World} {B : Nat} {e : TypeId} {k : Nat} {p : Option Addr} {n c : Nat} {l : List (List D0)} {f : List Nat} (h : OwnRows w B e k p n c l f) : RowsR w k p n c l := by
  obtain ⟨hl, css, fs, ha, ho, _, _⟩ := h
  refine ⟨hl, ho.le, ho.capLe, fun hn => ?_⟩
  obtain ⟨b, hp, _, hs⟩ := ho.seg hn
  refine ⟨b, 0, hp, fun i x hx => ?_⟩
  obtain ⟨cs, h1, h2, h3⟩ := ha.at i x hx
  exact ⟨cs, h1, h2, by rw [<- h3]; exact (hs.drop (i * k)).take k⟩
theorem OwnRows.lt {w : World} {B : Nat} {e : TypeId} {k : Nat} {p : Option Addr} {n c : Nat} {l : List (List D0)} {f : List Nat} (h : OwnRows w B e k p n c l f) : ∀ x ∈ f, B <= x /\ x < w.heap.size := by
  obtain ⟨hl, css, fs, ha, ho, rfl, _⟩ := h
  intro x hx
  rcases List.mem_append.1 hx with hx | hx
  · exact World.ownsRow.lt ho x (by cases p <;> simp_all [Value.ownBlock])
  · exact ha.lt x hx
theorem OwnRows.ext {w w' : World} {B : Nat} {e : TypeId} {k : Nat} {p : Option Addr} {n c : Nat} {l : List (List D0)} {f : List Nat} (h : OwnRows w B e k p n c l f) (he : Ext w w') : OwnRows w' B e k p n c l f := by
  obtain ⟨hl, css, fs, ha, ho, hf, hn⟩ := h
  exact ⟨hl, css, fs, ha.ext he, ho.ext he, hf, hn⟩
theorem OwnRows.mono {w : World} {B B' : Nat} {e : TypeId} {k : Nat} {p : Option Addr} {n c : Nat} {l : List (List D0)} {f : List Nat} (h : OwnRows w B e k p n c l f) (hb : B' <= B) : OwnRows w B' e k p n c l f := by
  obtain ⟨hl, css, fs, ha, ho, hf, hn⟩ := h
  exact ⟨hl, css, fs, ha.mono hb, ho.mono hb, hf, hn⟩
theorem OwnRows.chg {S : List Nat} {w w' : World} {B : Nat} {e : TypeId} {k : Nat} {p : Option Addr} {n c : Nat} {l : List (List D0)} {f : List Nat} (h : OwnRows w B e k p n c l f) (he : Chg S w w') (hS : ∀ x ∈ f, x ∉ S) : OwnRows w' B e k p n c l f := by
  obtain ⟨hl, css, fs, ha, ho, rfl, hn⟩ := h
  exact ⟨hl, css, fs, ha.chg he (fun x hx => hS x (List.mem_append_right _ hx)), ho.chg he (fun x hx => hS x (List.mem_append_left _ (by rw [hx]; simp))), rfl, hn⟩
theorem dec_no {p : Prop} [Decidable p] (h : ¬ p) : Value.bool false = Value.bool (decide p) := by simp [h]
theorem dec_yes {p : Prop} [Decidable p] (h : p) : Value.bool true = Value.bool (decide p) := by simp [h]
end Go.Proofs.YtbgokfhcgcoipaaGreatDoor.Sx
namespace Go.Proofs.YtbgokfhcgcoipaaGreatDoor
open Go Go.Proofs.YtbgokfhcgcoipaaGreatDoor.Sx
theorem take_set {α : Type} (l : List α) (d v : α) (k : Nat) (hk : k < l.length) (n : Nat) (hn : 0 < n) (h : l[k]? = some v) :
    (l.take k ++ List.replicate n d).set k v = l.take (k + 1) ++ List.replicate (n - 1) d := by
  have hlen : (l.take k).length = k := by simp; omega
  rw [List.set_append_right _ _ (by omega), hlen, Nat.sub_self]
  obtain ⟨m, rfl⟩ : ∃ m, n = m + 1 := ⟨n - 1, by omega⟩
  rw [List.replicate_succ, List.set_cons_zero, List.take_add_one, h]
  simp
end Go.Proofs.YtbgokfhcgcoipaaGreatDoor
namespace Go.Proofs.YtbgokfhcgcoipaaGreatDoor
open Go Go.Proofs.YtbgokfhcgcoipaaGreatDoor.Sx
theorem open_Signed {w : World} {vs : List Value} {ds : List D0} (h : Reps w vs ds) (hc : ds.map D0.code = [.bool, .ints]) :
    ∃ (a0 : Bool) (a1p : Option Addr) (a1n a1c : Nat) (a1z : List Int), vs = [.bool a0, .slice a1p a1n a1c] /\ ds = [.bool a0, .ints a1z] /\ IntsR w a1p a1n a1c a1z := by
  obtain ⟨b0, us, es, hv, hd, h2, hc2⟩ := h.bool hc
  subst hv; subst hd
  clear h hc
  have h := h2; have hc := hc2; clear h2 hc2
  obtain ⟨b1p, b1n, b1c, b1z, us, es, hv, hd, b1h, h2, hc2⟩ := h.ints hc
  subst hv; subst hd
  clear h hc
  have h := h2; have hc := hc2; clear h2 hc2
  obtain ⟨hv, hd⟩ := h.done hc
  subst hv; subst hd; clear h hc
  exact ⟨_, _, _, _, _, rfl, rfl, b1h⟩
theorem open_Dec {w : World} {vs : List Value} {ds : List D0} (h : Reps w vs ds) (hc : ds.map D0.code = [.bool, .ints, .int]) :
    ∃ (a0 : Bool) (a1p : Option Addr) (a1n a1c : Nat) (a1z : List Int) (a2 : Int), vs = [.bool a0, .slice a1p a1n a1c, .int .i64 a2] /\ ds = [.bool a0, .ints a1z, .int a2] /\ IntsR w a1p a1n a1c a1z := by
  obtain ⟨b0, us, es, hv, hd, h2, hc2⟩ := h.bool hc
  subst hv; subst hd
  clear h hc
  have h := h2; have hc := hc2; clear h2 hc2
  obtain ⟨b1p, b1n, b1c, b1z, us, es, hv, hd, b1h, h2, hc2⟩ := h.ints hc
  subst hv; subst hd
  clear h hc
  have h := h2; have hc := hc2; clear h2 hc2
  obtain ⟨b2, us, es, hv, hd, h2, hc2⟩ := h.int hc
  subst hv; subst hd
  clear h hc
  have h := h2; have hc := hc2; clear h2 hc2
  obtain ⟨hv, hd⟩ := h.done hc
  subst hv; subst hd; clear h hc
  exact ⟨_, _, _, _, _, _, rfl, rfl, b1h⟩
theorem open_Money {w : World} {vs : List Value} {ds : List D0} (h : Reps w vs ds) (hc : ds.map D0.code = [.str, .bool, .ints]) :
    ∃ (a0 : ByteArray) (a1 : Bool) (a2p : Option Addr) (a2n a2c : Nat) (a2z : List Int), vs = [.string a0, .bool a1, .slice a2p a2n a2c] /\ ds = [.str a0, .bool a1, .ints a2z] /\ IntsR w a2p a2n a2c a2z := by
  obtain ⟨b0, us, es, hv, hd, h2, hc2⟩ := h.str hc
  subst hv; subst hd
  clear h hc
  have h := h2; have hc := hc2; clear h2 hc2
  obtain ⟨b1, us, es, hv, hd, h2, hc2⟩ := h.bool hc
  subst hv; subst hd
  clear h hc
  have h := h2; have hc := hc2; clear h2 hc2
  obtain ⟨b2p, b2n, b2c, b2z, us, es, hv, hd, b2h, h2, hc2⟩ := h.ints hc
  subst hv; subst hd
  clear h hc
  have h := h2; have hc := hc2; clear h2 hc2
  obtain ⟨hv, hd⟩ := h.done hc
  subst hv; subst hd; clear h hc
  exact ⟨_, _, _, _, _, _, rfl, rfl, b2h⟩
theorem open_Acct {w : World} {vs : List Value} {ds : List D0} (h : Reps w vs ds) (hc : ds.map D0.code = [.str, .str, .bool, .ints]) :
    ∃ (a0 : ByteArray) (a1 : ByteArray) (a2 : Bool) (a3p : Option Addr) (a3n a3c : Nat) (a3z : List Int), vs = [.string a0, .string a1, .bool a2, .slice a3p a3n a3c] /\ ds = [.str a0, .str a1, .bool a2, .ints a3z] /\ IntsR w a3p a3n a3c a3z := by
  obtain ⟨b0, us, es, hv, hd, h2, hc2⟩ := h.str hc
  subst hv; subst hd
  clear h hc
  have h := h2; have hc := hc2; clear h2 hc2
  obtain ⟨b1, us, es, hv, hd, h2, hc2⟩ := h.str hc
  subst hv; subst hd
  clear h hc
  have h := h2; have hc := hc2; clear h2 hc2
  obtain ⟨b2, us, es, hv, hd, h2, hc2⟩ := h.bool hc
  subst hv; subst hd
  clear h hc
  have h := h2; have hc := hc2; clear h2 hc2
  obtain ⟨b3p, b3n, b3c, b3z, us, es, hv, hd, b3h, h2, hc2⟩ := h.ints hc
  subst hv; subst hd
  clear h hc
  have h := h2; have hc := hc2; clear h2 hc2
  obtain ⟨hv, hd⟩ := h.done hc
  subst hv; subst hd; clear h hc
  exact ⟨_, _, _, _, _, _, _, rfl, rfl, b3h⟩
theorem open_Leg {w : World} {vs : List Value} {ds : List D0} (h : Reps w vs ds) (hc : ds.map D0.code = [.str, .str, .bool, .ints]) :
    ∃ (a0 : ByteArray) (a1 : ByteArray) (a2 : Bool) (a3p : Option Addr) (a3n a3c : Nat) (a3z : List Int), vs = [.string a0, .string a1, .bool a2, .slice a3p a3n a3c] /\ ds = [.str a0, .str a1, .bool a2, .ints a3z] /\ IntsR w a3p a3n a3c a3z := by
  obtain ⟨b0, us, es, hv, hd, h2, hc2⟩ := h.str hc
  subst hv; subst hd
  clear h hc
  have h := h2; have hc := hc2; clear h2 hc2
  obtain ⟨b1, us, es, hv, hd, h2, hc2⟩ := h.str hc
  subst hv; subst hd
  clear h hc
  have h := h2; have hc := hc2; clear h2 hc2
  obtain ⟨b2, us, es, hv, hd, h2, hc2⟩ := h.bool hc
  subst hv; subst hd
  clear h hc
  have h := h2; have hc := hc2; clear h2 hc2
  obtain ⟨b3p, b3n, b3c, b3z, us, es, hv, hd, b3h, h2, hc2⟩ := h.ints hc
  subst hv; subst hd
  clear h hc
  have h := h2; have hc := hc2; clear h2 hc2
  obtain ⟨hv, hd⟩ := h.done hc
  subst hv; subst hd; clear h hc
  exact ⟨_, _, _, _, _, _, _, rfl, rfl, b3h⟩
end Go.Proofs.YtbgokfhcgcoipaaGreatDoor
namespace Go.Proofs.YtbgokfhcgcoipaaGreatDoor
open Go Go.Proofs.YtbgokfhcgcoipaaGreatDoor.Sx
theorem ints_at {w : World} {p : Option Addr} {n c : Nat} {zs : List Int} (h : IntsR w p n c zs) {i : Int} (h0 : 0 <= i) (h1 : i < n) :
    ∃ a, p = some a /\ Loads P T_int (a.add (i.toNat * 1)) (.int .i64 (zs.getD i.toNat 0)) w := by
  obtain ⟨a, hp, hl⟩ := h.at (P := P) (t := T_int) (k := i.toNat) (by kernel_rfl) (by omega)
  have hz : i.toNat < zs.length := by rw [h.1]; omega
  refine ⟨a, hp, ?_⟩
  rw [List.getD_eq_getElem?_getD, List.getElem?_eq_getElem hz]
  simpa using hl
def firstI (p : List D0 -> Bool) (l : List (List D0)) : Int := match l.findIdx? p with
  | some i => i
  | none => -1
theorem firstI_some {p : List D0 -> Bool} {l : List (List D0)} {j : Nat} (hj : j < l.length) (hp : p l[j] = true) (h : ∀ i (hi : i < l.length), i < j -> p l[i] = false) : firstI p l = j := by
  have : l.findIdx? p = some j := by
    rw [List.findIdx?_eq_some_iff_getElem]
    exact ⟨hj, hp, fun i hi => by simp [h i (by omega) hi]⟩
  simp [firstI, this]
theorem firstI_none {p : List D0 -> Bool} {l : List (List D0)} (h : ∀ i (hi : i < l.length), p l[i] = false) : firstI p l = -1 := by
  have : l.findIdx? p = none := by
    rw [List.findIdx?_eq_none_iff]
    intro x hx
    obtain ⟨i, hi, rfl⟩ := List.getElem_of_mem hx
    exact h i hi
  simp [firstI, this]
theorem firstI_spec (p : List D0 -> Bool) (l : List (List D0)) : firstI p l = -1 /\ (∀ x ∈ l, p x = false) ∨ ∃ j, ∃ h : j < l.length, firstI p l = j /\ p l[j] = true := by
  unfold firstI
  cases h : l.findIdx? p with
  | none => exact .inl ⟨rfl, fun x hx => (List.findIdx?_eq_none_iff.1 h) x hx⟩
  | some i =>
    rw [List.findIdx?_eq_some_iff_getElem] at h
    exact .inr ⟨i, h.1, rfl, h.2.1⟩
theorem spec_l01In_c (n lo hi : Int) (w : World) : Ret P n_spec_l01In [.int .i64 n, .int .i64 lo, .int .i64 hi] w fun v w' => v = .bool (decide (lo <= n /\ n <= hi)) /\ w' = w := by
  refine spec_l01In_ret ?_
  unfold spec_l01In
  refine ifD (fun h => ⟨?_, rfl⟩) (fun h => ⟨?_, rfl⟩) <;> simp [h]
def isLimb (z : Int) : Bool := decide (0 <= z /\ z <= 999999999)
def natOk (zs : List Int) : Bool := zs.all isLimb && decide (zs.length <= 50) && !(decide (zs.getLast? = some 0))
theorem getLast_getD {zs : List Int} (h : 0 < zs.length) : zs.getLast? = some (zs.getD (zs.length - 1) 0) := by
  rw [List.getLast?_eq_getElem?, List.getD_eq_getElem?_getD, List.getElem?_eq_getElem (by omega)]
  rfl
theorem all_getD {zs : List Int} (h : ∀ k < zs.length, isLimb (zs.getD k 0) = true) : zs.all isLimb = true := by
  rw [List.all_eq_true]
  intro z hz
  obtain ⟨i, hi, rfl⟩ := List.getElem_of_mem hz
  have := h i hi
  rwa [List.getD_eq_getElem?_getD, List.getElem?_eq_getElem hi] at this
theorem not_all_getD {zs : List Int} {k : Nat} (hk : k < zs.length) (h : isLimb (zs.getD k 0) = false) : zs.all isLimb = false := by
  rw [List.getD_eq_getElem?_getD, List.getElem?_eq_getElem hk] at h
  rw [List.all_eq_false]
  exact ⟨_, List.getElem_mem hk, by simpa using h⟩
theorem spec_NatOk_c {w : World} {p : Option Addr} {n c : Nat} {zs : List Int} (h : IntsR w p n c zs) : Ret P n_spec_NatOk [.slice p n c] w fun v w' => v = .bool (natOk zs) /\ Ext w w' := by
  refine spec_NatOk_ret ?_
  unfold spec_NatOk
  have hlen := h.1; have hcap := h.2.1; have hcm := h.2.2.1
  refine ⟨fun i wr => ∃ k : Nat, i = k /\ k <= n /\ Ext w wr /\ ∀ j < k, isLimb (zs.getD j 0) = true, fun i _ => n - i.toNat, ⟨0, rfl, by omega, Ext.refl _, fun j hj => by omega⟩, ?_⟩
  intro junk wr i ⟨k, hik, hk, hx, hall⟩
  subst hik
  refine ifD (fun hlt => ?_) (fun hge => ?_)
  · obtain ⟨a, rfl, hl⟩ := ints_at (h.ext hx) (i := (k : Int)) (by omega) (by omega)
    refine ⟨⟨by omega, by omega⟩, _, hl, ?_⟩
    refine Ret.at (spec_l01In_c _ 0 999999999 wr) ?_
    rintro v w1 ⟨hv, hw⟩
    subst hv; subst hw
    refine ⟨_, rfl, ifN (fun hb => ⟨?_, hx⟩) (fun hb => ?_)⟩
    · have : zs.all isLimb = false := not_all_getD (k := k) (by omega) (by simpa [isLimb] using hb)
      simp [natOk, this]
    · refine exW ⟨by omega, by omega⟩ ⟨⟨k + 1, by omega, by omega, hx, fun j hj => ?_⟩, by simp; omega⟩
      by_cases hjk : j < k
      · exact hall j hjk
      · obtain rfl : j = k := by omega
        simpa [isLimb] using hb
  · have hkn : k = n := by omega
    subst hkn
    have hal : zs.all isLimb = true := all_getD (fun j hj => hall j (by omega))
    refine ifD (fun hle => ifD (fun h0 => ⟨?_, hx⟩) (fun h0 => ?_)) (fun hgt => ⟨?_, hx⟩)
    · have : zs = [] := List.eq_nil_of_length_eq_zero (by omega)
      subst this; rfl
    · obtain ⟨a, rfl, hl⟩ := ints_at (h.ext hx) (i := (k : Int) - 1) (by omega) (by omega)
      refine exW ⟨by omega, by omega⟩ ⟨⟨by omega, by omega⟩, _, hl, ?_, hx⟩
      have e : ((k : Int) - 1).toNat = zs.length - 1 := by omega
      simp only [natOk, hal, getLast_getD (show 0 < zs.length by omega), e, Option.some.injEq, Bool.true_and]
      rw [show decide (zs.length <= 50) = true by simp; omega]
      simp
    · simp [natOk, hal, show ¬ zs.length <= 50 by omega]
theorem impl_NatOk_c {w : World} {p : Option Addr} {n c : Nat} {zs : List Int} (h : IntsR w p n c zs) : Ret P n_impl_NatOk [.slice p n c] w fun v w' => v = .bool (natOk zs) /\ Ext w w' := by
  have hlen := h.1; have hcap := h.2.1; have hcm := h.2.2.1
  have J : ∀ wr, Ext w wr -> zs.length <= 50 -> zs.getLast? ≠ some 0 -> impl_NatOk_j0 p n wr fun v w' => v = .bool (natOk zs) /\ Ext w w' := by
    intro wr hx0 h50 hl0
    unfold impl_NatOk_j0
    refine ⟨fun i wr => ∃ k : Nat, i = k /\ k <= n /\ Ext w wr /\ ∀ j < k, isLimb (zs.getD j 0) = true, fun i _ => n - i.toNat, ⟨0, rfl, by omega, hx0, fun j hj => by omega⟩, ?_⟩
    intro junk wr i ⟨k, hik, hk, hx, hall⟩
    subst hik
    refine ifD (fun hlt => ?_) (fun hge => ⟨?_, hx⟩)
    · obtain ⟨a, rfl, hl⟩ := ints_at (h.ext hx) (i := (k : Int)) (by omega) (by omega)
      have no : isLimb (zs.getD k 0) = false -> Value.bool false = .bool (natOk zs) := fun hf => by
        have : zs.all isLimb = false := not_all_getD (k := k) (by omega) hf
        simp [natOk, this]
      refine ⟨⟨by omega, by omega⟩, _, hl, ifD (fun hb => ifT ⟨no (by simp [isLimb]; simp at hb; omega), hx⟩) (fun hb => ifD (fun hb2 => ⟨no (by simp [isLimb]; simp at hb2; omega), hx⟩) (fun hb2 => ?_))⟩
      refine exW ⟨by omega, by omega⟩ ⟨⟨k + 1, by omega, by omega, hx, fun j hj => ?_⟩, by simp; omega⟩
      by_cases hjk : j < k
      · exact hall j hjk
      · obtain rfl : j = k := by omega
        simp [isLimb]; simp at hb hb2; omega
    · have hal : zs.all isLimb = true := all_getD (fun j hj => hall j (by omega))
      simp [natOk, hal, h50, hl0]
  refine impl_NatOk_ret ?_
  unfold impl_NatOk
  refine ifD (fun hgt => ifT ⟨by simp [natOk, show ¬ zs.length <= 50 by omega], Ext.refl _⟩) (fun hle => ifD (fun hpos => ?_) (fun h0 => ifF ?_))
  · obtain ⟨a, rfl, hl⟩ := ints_at h (i := (n : Int) - 1) (by omega) (by omega)
    have e : ((n : Int) - 1).toNat = zs.length - 1 := by omega
    have hg := getLast_getD (show 0 < zs.length by omega)
    rw [<- e] at hg
    refine exW ⟨by omega, by omega⟩ ⟨⟨by omega, by omega⟩, _, hl, ifD (fun hz => ⟨?_, Ext.refl _⟩) (fun hz => J w (Ext.refl _) (by omega) (by rw [hg]; simpa using hz))⟩
    simp only [natOk, hg, hz]; simp
  · have : zs = [] := List.eq_nil_of_length_eq_zero (by omega)
    exact J w (Ext.refl _) (by omega) (by rw [this]; simp)
def lexR : List Int -> List Int -> Int
  | x :: xs, y :: ys => if x < y then -1 else if y < x then 1 else lexR xs ys
  | _, _ => 0
def cmpL (a b : List Int) : Int := if a.length < b.length then -1 else if b.length < a.length then 1 else lexR a.reverse b.reverse
theorem lexR_same : ∀ (a : List Int), lexR a a = 0
  | [] => rfl
  | x :: xs => by simp [lexR, lexR_same xs]
theorem lexR_at : ∀ (t : List Int) {x y : Int} {s r : List Int}, x ≠ y -> lexR (t ++ x :: s) (t ++ y :: r) = if x < y then -1 else 1
  | [], x, y, s, r, h => by
    simp only [List.nil_append, lexR]
    by_cases h1 : x < y
    · simp [h1]
    · simp [h1, show y < x by omega]
  | z :: t, x, y, s, r, h => by simp [lexR, lexR_at t h]
theorem lexR_zero : ∀ (a b : List Int), a.length = b.length -> lexR a b = 0 -> a = b
  | [], [], _, _ => rfl
  | x :: xs, y :: ys, hl, h => by
    simp only [lexR] at h
    by_cases h1 : x < y
    · simp [h1] at h
    · by_cases h2 : y < x
      · simp [h1, h2] at h
      · simp only [h1, h2, if_false] at h
        rw [lexR_zero xs ys (by simpa using hl) h, show x = y by omega]
theorem cmpL_zero {a b : List Int} : cmpL a b = 0 ↔ a = b := by
  constructor
  · intro h
    unfold cmpL at h
    split at h
    · cases h
    · split at h
      · cases h
      · have := lexR_zero _ _ (by simp; omega) h
        simpa using this
  · rintro rfl; simp [cmpL, lexR_same]
theorem cmpL_at {a b : List Int} {i : Nat} (hl : a.length = b.length) (hi : i < a.length) (ht : ∀ j, i < j -> a.getD j 0 = b.getD j 0) (hne : a.getD i 0 ≠ b.getD i 0) : cmpL a b = if a.getD i 0 < b.getD i 0 then -1 else 1 := by
  have hi2 : i < b.length := by omega
  have e1 : a = a.take i ++ a.getD i 0 :: a.drop (i + 1) := by
    rw [List.getD_eq_getElem?_getD, List.getElem?_eq_getElem hi, Option.getD_some, <- List.drop_eq_getElem_cons, List.take_append_drop]
  have e2 : b = b.take i ++ b.getD i 0 :: b.drop (i + 1) := by
    rw [List.getD_eq_getElem?_getD, List.getElem?_eq_getElem hi2, Option.getD_some, <- List.drop_eq_getElem_cons, List.take_append_drop]
  have ed : a.drop (i + 1) = b.drop (i + 1) := by
    apply List.ext_getElem (by simp; omega)
    intro k h1 h2
    have := ht (i + 1 + k) (by omega)
    simp only [List.length_drop] at h1 h2
    rw [List.getD_eq_getElem?_getD, List.getD_eq_getElem?_getD, List.getElem?_eq_getElem (by omega), List.getElem?_eq_getElem (by omega)] at this
    simpa using this
  have r1 : a.reverse = (a.drop (i + 1)).reverse ++ a.getD i 0 :: (a.take i).reverse := (congrArg List.reverse e1).trans (by simp)
  have r2 : b.reverse = (a.drop (i + 1)).reverse ++ b.getD i 0 :: (b.take i).reverse := (congrArg List.reverse e2).trans (by simp [ed])
  unfold cmpL
  rw [if_neg (by omega), if_neg (by omega), r1, r2, lexR_at _ hne]
theorem cmpL_all {a b : List Int} (hl : a.length = b.length) (ht : ∀ j, a.getD j 0 = b.getD j 0) : cmpL a b = 0 := by
  have : a = b := by
    apply List.ext_getElem hl
    intro k h1 h2
    have := ht k
    rw [List.getD_eq_getElem?_getD, List.getD_eq_getElem?_getD, List.getElem?_eq_getElem h1, List.getElem?_eq_getElem h2] at this
    simpa using this
  exact cmpL_zero.2 this
theorem getD_beyond {a : List Int} {j : Nat} (h : a.length <= j) : a.getD j 0 = 0 := by
  rw [List.getD_eq_getElem?_getD, List.getElem?_eq_none h]; rfl
theorem spec_l02Cmp_c {w : World} {p q : Option Addr} {n c m d : Nat} {zs ys : List Int} (h : IntsR w p n c zs) (k : IntsR w q m d ys) :
    Ret P n_spec_l02Cmp [.slice p n c, .slice q m d] w fun v w' => v = .int .i64 (cmpL zs ys) /\ Ext w w' := by
  refine spec_l02Cmp_ret ?_
  unfold spec_l02Cmp
  have hz := h.1; have hy := k.1; have hcap := h.2.1; have hcm := h.2.2.1
  refine ifD (fun hne => ifD (fun hlt => ⟨?_, Ext.refl _⟩) (fun hge => ⟨?_, Ext.refl _⟩)) (fun heq => ?_)
  · rw [cmpL, if_pos (by omega)]
  · rw [cmpL, if_neg (by omega), if_pos (by omega)]
  · have hnm : n = m := by omega
    refine exW ⟨by omega, by omega⟩ ⟨fun i wr => -1 <= i /\ i < n /\ Ext w wr /\ ∀ j : Nat, i < j -> zs.getD j 0 = ys.getD j 0, fun i _ => (i + 1).toNat, ⟨by omega, by omega, Ext.refl _, fun j hj => by rw [getD_beyond (by omega), getD_beyond (by omega)]⟩, ?_⟩
    intro junk wr i ⟨h1, h2, hx, ht⟩
    refine ifD (fun h0 => ?_) (fun hneg => ⟨?_, hx⟩)
    · have hx1 := hx.trans (Ext.drew wr)
      have hx2 := hx1.trans (Ext.drew _)
      obtain ⟨a, hpa, _⟩ := ints_at h h0 h2
      obtain ⟨b, hqb, _⟩ := ints_at k h0 (show i < m by omega)
      subst hpa; subst hqb
      have l1 : ∀ w', Ext w w' -> Loads P T_int (a.add (i.toNat * 1)) (.int .i64 (zs.getD i.toNat 0)) w' := fun w' hw => by
        obtain ⟨a', ha, hl⟩ := ints_at (h.ext hw) h0 h2
        cases ha; exact hl
      have l2 : ∀ w', Ext w w' -> Loads P T_int (b.add (i.toNat * 1)) (.int .i64 (ys.getD i.toNat 0)) w' := fun w' hw => by
        obtain ⟨a', ha, hl⟩ := ints_at (k.ext hw) h0 (show i < m by omega)
        cases ha; exact hl
      have ht' : ∀ j : Nat, i.toNat < j -> zs.getD j 0 = ys.getD j 0 := fun j hj => ht j (by omega)
      refine ⟨⟨by omega, by omega⟩, _, fun w' hw => l1 w' (hx1.trans hw), ⟨by omega, by omega⟩, _, fun w' hw => l2 w' (hx1.trans hw), ifD (fun hlt => ⟨?_, hx1⟩) (fun hge => ?_)⟩
      · rw [cmpL_at (by omega) (by omega) ht' (by omega), if_pos hlt]
      · refine ⟨⟨by omega, by omega⟩, _, fun w' hw => l1 w' (hx2.trans hw), ⟨by omega, by omega⟩, _, fun w' hw => l2 w' (hx2.trans hw), ifD (fun hlt => ⟨?_, hx2⟩) (fun hge2 => ?_)⟩
        · rw [cmpL_at (by omega) (by omega) ht' (by omega), if_neg (by omega)]
        · refine exW ⟨by omega, by omega⟩ ⟨⟨by omega, by omega, hx2, fun j hj => ?_⟩, by show (i - 1 + 1).toNat < (i + 1).toNat; omega⟩
          by_cases e : j = i.toNat
          · subst e; omega
          · exact ht j (by omega)
    · rw [cmpL_all (by omega) (fun j => ht j (by omega))]
theorem impl_natCmp_c {w : World} {p q : Option Addr} {n c m d : Nat} {zs ys : List Int} (h : IntsR w p n c zs) (k : IntsR w q m d ys) :
    Ret P n_impl_natCmp [.slice p n c, .slice q m d] w fun v w' => v = .int .i64 (cmpL zs ys) /\ Ext w w' := by
  refine impl_natCmp_ret ?_
  unfold impl_natCmp
  have hz := h.1; have hy := k.1; have hcap := h.2.1; have hcm := h.2.2.1
  refine ifD (fun hne => ifD (fun hlt => ⟨?_, Ext.refl _⟩) (fun hge => ⟨?_, Ext.refl _⟩)) (fun heq => ?_)
  · rw [cmpL, if_pos (by omega)]
  · rw [cmpL, if_neg (by omega), if_pos (by omega)]
  · have hnm : n = m := by omega
    refine exW ⟨by omega, by omega⟩ ⟨fun i wr => -1 <= i /\ i < n /\ Ext w wr /\ ∀ j : Nat, i < j -> zs.getD j 0 = ys.getD j 0, fun i _ => (i + 1).toNat, ⟨by omega, by omega, Ext.refl _, fun j hj => by rw [getD_beyond (by omega), getD_beyond (by omega)]⟩, ?_⟩
    intro junk wr i ⟨h1, h2, hx, ht⟩
    refine ifD (fun h0 => ?_) (fun hneg => ⟨?_, hx⟩)
    · have hx1 := hx.trans (Ext.drew wr)
      have hx2 := hx1.trans (Ext.drew _)
      obtain ⟨a, hpa, _⟩ := ints_at h h0 h2
      obtain ⟨b, hqb, _⟩ := ints_at k h0 (show i < m by omega)
      subst hpa; subst hqb
      have l1 : ∀ w', Ext w w' -> Loads P T_int (a.add (i.toNat * 1)) (.int .i64 (zs.getD i.toNat 0)) w' := fun w' hw => by
        obtain ⟨a', ha, hl⟩ := ints_at (h.ext hw) h0 h2
        cases ha; exact hl
      have l2 : ∀ w', Ext w w' -> Loads P T_int (b.add (i.toNat * 1)) (.int .i64 (ys.getD i.toNat 0)) w' := fun w' hw => by
        obtain ⟨a', ha, hl⟩ := ints_at (k.ext hw) h0 (show i < m by omega)
        cases ha; exact hl
      have ht' : ∀ j : Nat, i.toNat < j -> zs.getD j 0 = ys.getD j 0 := fun j hj => ht j (by omega)
      refine ⟨⟨by omega, by omega⟩, _, fun w' hw => l1 w' (hx1.trans hw), ⟨by omega, by omega⟩, _, fun w' hw => l2 w' (hx1.trans hw), ifD (fun hne => ?_) (fun heq2 => ?_)⟩
      · refine ⟨⟨by omega, by omega⟩, _, fun w' hw => l1 w' (hx2.trans hw), ⟨by omega, by omega⟩, _, fun w' hw => l2 w' (hx2.trans hw), ifD (fun hlt => ⟨?_, hx2⟩) (fun hge => ⟨?_, hx2⟩)⟩
        · rw [cmpL_at (by omega) (by omega) ht' hne, if_pos hlt]
        · rw [cmpL_at (by omega) (by omega) ht' hne, if_neg hge]
      · have heq2 : zs.getD i.toNat 0 = ys.getD i.toNat 0 := by simpa using heq2
        refine exW ⟨by omega, by omega⟩ ⟨⟨by omega, by omega, hx1, fun j hj => ?_⟩, by show (i - 1 + 1).toNat < (i + 1).toNat; omega⟩
        by_cases e : j = i.toNat
        · subst e; omega
        · exact ht j (by omega)
    · rw [cmpL_all (by omega) (fun j => ht j (by omega))]
theorem impl_sameInts_c {w : World} {p q : Option Addr} {n c m d : Nat} {zs ys : List Int} (h : IntsR w p n c zs) (k : IntsR w q m d ys) :
    Ret P n_impl_sameInts [.slice p n c, .slice q m d] w fun v w' => v = .bool (decide (zs = ys)) /\ Ext w w' := by
  refine impl_sameInts_ret ?_
  unfold impl_sameInts
  have hz := h.1; have hy := k.1; have hcap := h.2.1; have hcm := h.2.2.1
  refine ifD (fun hne => ⟨dec_no (fun e => hne (by rw [<- hz, <- hy, e])), Ext.refl _⟩) (fun heq => ?_)
  have hnm : n = m := by omega
  refine ⟨fun i wr => ∃ j : Nat, i = j /\ j <= n /\ Ext w wr /\ ∀ k < j, zs.getD k 0 = ys.getD k 0, fun i _ => n - i.toNat, ⟨0, rfl, by omega, Ext.refl _, fun k hk => by omega⟩, ?_⟩
  intro junk wr i ⟨j, hij, hj, hx, he⟩
  subst hij
  refine ifD (fun hlt => ?_) (fun hge => ⟨dec_yes ?_, hx⟩)
  · have hx1 := hx.trans (Ext.drew wr)
    obtain ⟨a, hpa, _⟩ := ints_at h (i := (j : Int)) (by omega) hlt
    obtain ⟨b, hqb, _⟩ := ints_at k (i := (j : Int)) (by omega) (by omega)
    subst hpa; subst hqb
    refine ⟨⟨by omega, by omega⟩, zs.getD j 0, fun w' hw => ?_, ⟨by omega, by omega⟩, ys.getD j 0, fun w' hw => ?_, ifD (fun hne => ⟨dec_no (fun e => ?_), hx1⟩) (fun heq2 => ?_)⟩
    · obtain ⟨a', ha, hl⟩ := ints_at (h.ext (hx1.trans hw)) (i := (j : Int)) (by omega) hlt
      cases ha; exact hl
    · obtain ⟨a', ha, hl⟩ := ints_at (k.ext (hx1.trans hw)) (i := (j : Int)) (by omega) (by omega)
      cases ha; exact hl
    · subst e; exact hne rfl
    · refine exW ⟨by omega, by omega⟩ ⟨⟨j + 1, by omega, by omega, hx1, fun k hk => ?_⟩, by simp; omega⟩
      by_cases e : k = j
      · subst e; simpa using heq2
      · exact he k (by omega)
  · apply List.ext_getElem (by omega)
    intro k h1 h2
    have := he k (by omega)
    rw [List.getD_eq_getElem?_getD, List.getD_eq_getElem?_getD, List.getElem?_eq_getElem h1, List.getElem?_eq_getElem h2] at this
    simpa using this
theorem impl_intSame_c {w : World} {xs ys : List Value} {dx dy : List D0} (h : Reps w xs dx) (k : Reps w ys dy) (hc : dx.map D0.code = [.bool, .ints]) (kc : dy.map D0.code = [.bool, .ints]) :
    Ret P n_impl_intSame [.agg ⟨xs⟩, .agg ⟨ys⟩] w fun v w' => v = .bool (decide (dx = dy)) /\ Ext w w' := by
  obtain ⟨a0, a1p, a1n, a1c, a1z, rfl, rfl, ha⟩ := open_Signed h hc
  obtain ⟨b0, b1p, b1n, b1c, b1z, rfl, rfl, hb⟩ := open_Signed k kc
  refine impl_intSame_ret ?_
  unfold impl_intSame
  intro r w1 hn1 r1 w2 hn2
  have x := hn1.ext.trans hn2.ext
  have k0 := hn1.blk.ext hn2.ext; have k1 := hn2.blk
  refine ⟨_, k0.load (by kernel_rfl) rfl, _, k1.load (by kernel_rfl) rfl, fun e => ?_, fun e => ⟨dec_no (fun h => by simp at h; simp [h] at e), x⟩⟩
  refine ⟨_, _, _, k0.load (by kernel_rfl) rfl, _, _, _, k1.load (by kernel_rfl) rfl, ?_⟩
  refine Ret.at (impl_sameInts_c (ha.ext x) (hb.ext x)) ?_
  rintro v w3 ⟨hv, y⟩
  subst hv
  refine ⟨_, rfl, ?_, x.trans y⟩
  have e : a0 = b0 := by simpa using e
  subst e
  simp
end Go.Proofs.YtbgokfhcgcoipaaGreatDoor
