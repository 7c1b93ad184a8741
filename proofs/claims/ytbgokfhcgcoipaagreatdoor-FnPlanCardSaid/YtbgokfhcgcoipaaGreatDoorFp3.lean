/-
  Parts of the proof of fnPlan_holds: G11, G12, G13, SxMem, Nm, SxData, SxOwn, DInts, DS, CBase, CDraw, CInt, CNum, CNat, CAdd, CSigned, CIntAdd, CSpecInt, CNatOf, CAggE, CMake, Tab, CCurr, CWord, CLegsOk, CCmp, CDebtsOk, SxMark.
  Conditions: none.
-/
import Derived.Laws.AppendOwn
import Derived.Laws.CopyRow
import Derived.Laws.OwnMore
import Derived.Laws.BytesArg
import Derived.Test.YtbgokfhcgcoipaaGreatDoorFp2
set_option linter.unusedVariables false
set_option linter.unusedSimpArgs false
namespace Go.RowKit
end Go.RowKit

namespace Go.Proofs.YtbgokfhcgcoipaaGreatDoor
variable {w : World} {R : Value -> World -> Prop}
open Go Go.Proofs.YtbgokfhcgcoipaaGreatDoor.Sx
set_option maxRecDepth 100000
def spec_l04Make (neg : Bool) (a0 : Option Addr) (a1 a2 : Nat) (w : World) (R : Value -> World -> Prop) : Prop :=
 ∀ r wv, New w (.cells ⟨[.bool false, .slice none 0 0]⟩ 31 (0, 0)) r wv ->
 Calls P 225 ⟨[.slice a0 a1 a2]⟩ wv fun e a3 =>
 ∃ a4 a5 a6, e = .returned (.slice a4 a5 a6) /\
 (neg = true ->
 ∀ a7 a8, New a3 (.cells ⟨[]⟩ 3 (0, 0)) a7 a8 ->
 ∃ a9 aa ab ac, Appends P [29, 29] [(.slice (some ⟨a7, 0, none⟩) 0 0), .slice a4 a5 a6] (.slice a9 aa ab) a8 ac /\
 ∃ wv_4, Stores P 31 ⟨r, 0, none⟩ (.agg #[(.bool (decide ((0 : Int) < ((a5 : Nat) : Int)))), .slice a9 aa ab]) ac wv_4 /\
 ∃ r0 ae af ag, Loads P 31 ⟨r, 0, none⟩ (.agg #[.bool r0, .slice ae af ag]) wv_4 /\ R (.agg #[.bool r0, .slice ae af ag]) wv_4) /\
 (neg = false ->
 ∀ ah ai, New a3 (.cells ⟨[]⟩ 3 (0, 0)) ah ai ->
 ∃ aj ak al am, Appends P [29, 29] [(.slice (some ⟨ah, 0, none⟩) 0 0), .slice a4 a5 a6] (.slice aj ak al) ai am /\
 ∃ wv_7, Stores P 31 ⟨r, 0, none⟩ (.agg #[.bool false, .slice aj ak al]) am wv_7 /\
 ∃ r0_1 an ao ap, Loads P 31 ⟨r, 0, none⟩ (.agg #[.bool r0_1, .slice an ao ap]) wv_7 /\ R (.agg #[.bool r0_1, .slice an ao ap]) wv_7)
theorem spec_l04Make_ret {a : Bool} {a0 : Option Addr} {a1 a2 : Nat} (h : spec_l04Make a a0 a1 a2 w R) : Ret P 164 [.bool a, .slice a0 a1 a2] w R := Ret.of_fsem Tryz.func164 rfl (Eq.mp (show _ = fsem P Tryz.f164 (fun k => []) _ R w from by kernel_rfl) h)
def spec_NatOf (n : Int) (w : World) (R : Value -> World -> Prop) : Prop :=
 ∀ r wv, New w (.cells ⟨[]⟩ 3 (0, 0)) r wv ->
 ∃ (a0 : Int -> Option Addr -> Nat -> Nat -> World -> Prop) (mu : Int -> Option Addr -> Nat -> Nat -> World -> Nat), a0 n (some ⟨r, 0, none⟩) 0 0 wv /\
 ∀ (a1 : Fr) (a2 : World) (n_1 : Int) (a3 : Option Addr) (a4 a5 : Nat), a0 n_1 a3 a4 a5 a2 ->
 ((decide ((0 : Int) < n_1)) = true ->
 (1000000000 : Int) ≠ 0 /\ ∃ t9 : Int, t9 = Int.tmod n_1 1000000000 /\ ∀ a6 a7, New a2 (.cells ⟨[.int .i64 t9]⟩ 3 (0, 0)) a6 a7 ->
 ∃ a8 a9 aa ab, Appends P [29, 29] [.slice a3 a4 a5, (.slice (some ⟨a6, 0, none⟩) 1 1)] (.slice a8 a9 aa) a7 ab /\
 (1000000000 : Int) ≠ 0 /\ ∃ ac : Int, ac = IntKind.wrap .i64 (Int.tdiv n_1 1000000000) /\ a0 ac a8 a9 aa ab /\ mu ac a8 a9 aa ab < mu n_1 a3 a4 a5 a2) /\
 ((decide ((0 : Int) < n_1)) = false ->
 R (.slice a3 a4 a5) a2)
theorem spec_NatOf_ret {n : Int} (h : spec_NatOf n w R) : Ret P 165 [.int .i64 n] w R := Ret.of_fsem Tryz.func165 rfl (Eq.mp (show _ = fsem P Tryz.f165 (fun k => cond (Nat.beq k 3) [(0, .one (.int .i64)), (3, .one .slice)] ([])) _ R w from by kernel_rfl) h)
def spec_l01Byte_j0 (x : Int) (W : World) (R : Value -> World -> Prop) : Prop :=
 R (.int .i64 x) W
def spec_l01Byte (c : Option Addr) (w : World) (R : Value -> World -> Prop) : Prop :=
 ptrS c fun ad => ∃ t8, Loads P 3 (ad.add 2) (.int .i64 t8) w /\ ∃ t9 : Int, t9 = IntKind.wrap .i64 (t8 * 6364136223846793005) /\ ∃ a0 : Int, a0 = IntKind.wrap .i64 (t9 + 1442695040888963407) /\ ptrS c fun a1 => ∃ wv, Stores P 3 (a1.add 2) (.int .i64 a0) w wv /\
 ptrS c fun a2 => ∃ a3, (∀ wv_1, Ext wv.drew wv_1 -> Loads P 3 (a2.add 2) (.int .i64 a3) wv_1) /\ 0 <= (33 : Int) /\ ∃ a4 : Int, a4 = Int.fdiv a3 (2 ^ (min (33 : Int).toNat (IntKind.bits .i64))) /\ ptrS c fun a5 => ∃ a6, (∀ wv_2, Ext wv.drew wv_2 -> Loads P 3 (a5.add 2) (.int .i64 a6) wv_2) /\ 0 <= (45 : Int) /\ ∃ a7 : Int, a7 = Int.fdiv a6 (2 ^ (min (45 : Int).toNat (IntKind.bits .i64))) /\ ∃ a8 : Int, a8 = IntKind.wrap .i64 (BitVec.ofInt (IntKind.bits .i64) a4 ^^^ BitVec.ofInt (IntKind.bits .i64) a7).toNat /\ ∃ a9 : Int, a9 = IntKind.wrap .i64 (BitVec.ofInt (IntKind.bits .i64) a8 &&& BitVec.ofInt (IntKind.bits .i64) 255).toNat /\ ptrS c fun aa => ∃ ab, (∀ wv_3, Ext wv.drew.drew wv_3 -> Loads P 3 (aa.add 1) (.int .i64 ab) wv_3) /\ ptrS c fun ac => ∃ ae af ag, (∀ wv_4, Ext wv.drew.drew wv_4 -> Loads P 28 (ac.add 0) (.slice ae af ag) wv_4) /\ ((decide ((ab : Int) < ((af : Nat) : Int))) = true ->
 ptrS c fun ah => ∃ ai aj ak, (∀ wv_5, Ext wv.drew.drew.drew wv_5 -> Loads P 28 (ah.add 0) (.slice ai aj ak) wv_5) /\ ptrS c fun al => ∃ am, (∀ wv_6, Ext wv.drew.drew.drew wv_6 -> Loads P 3 (al.add 1) (.int .i64 am) wv_6) /\ (0 <= (am : Int) /\ (am : Int) < (aj : Nat)) /\ ptrS ai fun an => ∃ ao, (∀ wv_7, Ext wv.drew.drew.drew wv_7 -> Loads P 5 (an.add (am.toNat * 1)) (.int .u8 ao) wv_7) /\ ∃ ap : Int, ap = IntKind.wrap .i64 ao /\ ∃ aq : Int, aq = IntKind.wrap .i64 (a9 + ap) /\ ∃ ar : Int, ar = IntKind.wrap .i64 (BitVec.ofInt (IntKind.bits .i64) aq &&& BitVec.ofInt (IntKind.bits .i64) 255).toNat /\ ptrS c fun au => ∃ av, Loads P 3 (au.add 1) (.int .i64 av) wv.drew.drew.drew /\ ∃ aw : Int, aw = IntKind.wrap .i64 (av + 1) /\ ptrS c fun ax => ∃ wv_8, Stores P 3 (ax.add 1) (.int .i64 aw) wv.drew.drew.drew wv_8 /\
 spec_l01Byte_j0 ar wv_8 R) /\
 ((decide ((ab : Int) < ((af : Nat) : Int))) = false ->
 spec_l01Byte_j0 a9 wv.drew.drew R)
theorem spec_l01Byte_ret {c : Option Addr} (h : spec_l01Byte c w R) : Ret P 166 [.pointer c] w R := Ret.of_fsem Tryz.func166 rfl (Eq.mp (show _ = fsem P Tryz.f166 (fun k => []) _ R w from by kernel_rfl) h)
def spec_l01Pick (c a0 : Option Addr) (a1 a2 : Nat) (w : World) (R : Value -> World -> Prop) : Prop :=
 Calls P 83 ⟨[(.pointer c), (.int .i64 ((a1 : Nat) : Int))]⟩ w fun e wv =>
 ∃ t9, e = .returned (.int .i64 t9) /\
 (0 <= (t9 : Int) /\ (t9 : Int) < (a1 : Nat)) /\ ptrS a0 fun ad => ∃ a3, Loads P 3 (ad.add (t9.toNat * 1)) (.int .i64 a3) wv /\ R (.int .i64 a3) wv
theorem spec_l01Pick_ret {c a : Option Addr} {a0 a1 : Nat} (h : spec_l01Pick c a a0 a1 w R) : Ret P 167 [.pointer c, .slice a a0 a1] w R := Ret.of_fsem Tryz.func167 rfl (Eq.mp (show _ = fsem P Tryz.f167 (fun k => []) _ R w from by kernel_rfl) h)
def strings_Join_j0 (a0 : Option Addr) (a1 a2 : Nat) (sep : ByteArray) (n : Int) (W : World) (R : Value -> World -> Prop) : Prop :=
 ∃ (a3 : Int -> Int -> World -> Prop) (mu : Int -> Int -> World -> Nat), a3 n 0 W /\
 ∀ (a4 : Fr) (wv : World) (n_1 a5 : Int), a3 n_1 a5 wv ->
 ((decide ((a5 : Int) < ((a1 : Nat) : Int))) = true ->
 (0 <= (a5 : Int) /\ (a5 : Int) < (a1 : Nat)) /\ ptrS a0 fun a6 => ∃ a7, Loads P 9 (a6.add (a5.toNat * 1)) (.string a7) wv /\ ∃ a8 : Int, a8 = IntKind.wrap .i64 (9223372036854775807 - n_1) /\ ((decide ((a8 : Int) < ((a7.size : Nat) : Int))) = true ->
 False) /\
 ((decide ((a8 : Int) < ((a7.size : Nat) : Int))) = false ->
 ∃ a9 : Int, a9 = IntKind.wrap .i64 (n_1 + ((a7.size : Nat) : Int)) /\ ∃ aa : Int, aa = IntKind.wrap .i64 (a5 + 1) /\ a3 a9 aa wv /\ mu a9 aa wv < mu n_1 a5 wv)) /\
 ((decide ((a5 : Int) < ((a1 : Nat) : Int))) = false ->
 ∀ r ab, New wv (.cells ⟨[(.pointer none), .slice none 0 0]⟩ 248 (0, 0)) r ab ->
 Calls P 226 ⟨[(.pointer (some ⟨r, 0, none⟩)), .int .i64 n_1]⟩ ab fun e ac =>
 e = .returned (.tuple #[]) /\
 (0 <= (0 : Int) /\ (0 : Int) < (a1 : Nat)) /\ ptrS a0 fun ae => ∃ af, Loads P 9 (ae.add (0 * 1)) (.string af) ac /\ Calls P 227 ⟨[(.pointer (some ⟨r, 0, none⟩)), .string af]⟩ ac fun ag ah =>
 ∃ (ai : Int) (aj : Value), ag = .returned (.tuple #[.int .i64 ai, aj]) /\
 (0 <= (1 : Int) /\ (1 : Int) <= (a1 : Nat)) /\ ∃ (ak : Int -> World -> Prop) (al : Int -> World -> Nat), ak 0 ah /\
 ∀ (am : Fr) (an : World) (ao : Int), ak ao an ->
 ((decide ((ao : Int) < (((a1 - 1) : Nat) : Int))) = true ->
 (0 <= (ao : Int) /\ (ao : Int) < ((a1 - 1) : Nat)) /\ ptrS (sub a0 1 a2 1) fun ap => ∃ aq, Loads P 9 (ap.add (ao.toNat * 1)) (.string aq) an /\ Calls P 227 ⟨[(.pointer (some ⟨r, 0, none⟩)), .string sep]⟩ an fun ar au =>
 ∃ (av : Int) (aw : Value), ar = .returned (.tuple #[.int .i64 av, aw]) /\
 Calls P 227 ⟨[(.pointer (some ⟨r, 0, none⟩)), .string aq]⟩ au fun ax ay =>
 ∃ (az : Int) (b0 : Value), ax = .returned (.tuple #[.int .i64 az, b0]) /\
 ∃ b1 : Int, b1 = IntKind.wrap .i64 (ao + 1) /\ ak b1 ay /\ al b1 ay < al ao an) /\
 ((decide ((ao : Int) < (((a1 - 1) : Nat) : Int))) = false ->
 Calls P 228 ⟨[(.pointer (some ⟨r, 0, none⟩))]⟩ an fun b2 b3 =>
 ∃ b4, b2 = .returned (.string b4) /\
 R (.string b4) b3))
def strings_Join (a0 : Option Addr) (a1 a2 : Nat) (sep : ByteArray) (w : World) (R : Value -> World -> Prop) : Prop :=
 ((decide ((((a1 : Nat) : Int) : Int) = 0)) = true ->
 R (.string (S [])) w) /\
 ((decide ((((a1 : Nat) : Int) : Int) = 0)) = false ->
 ((decide ((((a1 : Nat) : Int) : Int) = 1)) = true ->
 (0 <= (0 : Int) /\ (0 : Int) < (a1 : Nat)) /\ ptrS a0 fun ad => ∃ a3, Loads P 9 (ad.add (0 * 1)) (.string a3) w /\ R (.string a3) w) /\
 ((decide ((((a1 : Nat) : Int) : Int) = 1)) = false ->
 ((decide ((0 : Int) < ((sep.size : Nat) : Int))) = true ->
 ∃ a4 : Int, a4 = IntKind.wrap .i64 (((a1 : Nat) : Int) - 1) /\ (a4 : Int) ≠ 0 /\ ∃ a5 : Int, a5 = IntKind.wrap .i64 (Int.tdiv 9223372036854775807 a4) /\ ((decide ((a5 : Int) <= ((sep.size : Nat) : Int))) = true ->
 False) /\
 ((decide ((a5 : Int) <= ((sep.size : Nat) : Int))) = false ->
 ∃ a6 : Int, a6 = IntKind.wrap .i64 (((a1 : Nat) : Int) - 1) /\ ∃ a7 : Int, a7 = IntKind.wrap .i64 (((sep.size : Nat) : Int) * a6) /\ ∃ a8 : Int, a8 = IntKind.wrap .i64 (0 + a7) /\ strings_Join_j0 a0 a1 a2 sep a8 w R)) /\
 ((decide ((0 : Int) < ((sep.size : Nat) : Int))) = false ->
 strings_Join_j0 a0 a1 a2 sep 0 w R)))
def impl_CurPlaces (code : ByteArray) (w : World) (R : Value -> World -> Prop) : Prop :=
 Calls P 229 ⟨[.string code]⟩ w fun e wv =>
 ∃ a0 a1 a2 a3 t7, e = .returned (.tuple #[.agg #[.string a0, .string a1, .int .i64 a2, .int .i64 a3], .bool t7]) /\
 ∀ r a4, New wv (.cells ⟨[.string ByteArray.empty, .string ByteArray.empty, .int .i64 0, .int .i64 0]⟩ 252 (0, 0)) r a4 ->
 ∃ wv_2, Stores P 252 ⟨r, 0, none⟩ (.agg #[.string a0, .string a1, .int .i64 a2, .int .i64 a3]) a4 wv_2 /\
 ∃ a5, Loads P 3 ((⟨r, 0, none⟩ : Addr).add 2) (.int .i64 a5) wv_2 /\ R (.int .i64 a5) wv_2
theorem impl_CurPlaces_ret {a : ByteArray} (h : impl_CurPlaces a w R) : Ret P 169 [.string a] w R := Ret.of_fsem Tryz.func169 rfl (Eq.mp (show _ = fsem P Tryz.f169 (fun k => []) _ R w from by kernel_rfl) h)
def impl_signed (neg : Bool) (a0 : Option Addr) (a1 a2 : Nat) (w : World) (R : Value -> World -> Prop) : Prop :=
 ∀ r wv, New w (.cells ⟨[.bool false, .slice none 0 0]⟩ 31 (0, 0)) r wv ->
 (neg = true ->
 ∃ wv_1, Stores P 31 ⟨r, 0, none⟩ (.agg #[(.bool (decide ((0 : Int) < ((a1 : Nat) : Int)))), .slice a0 a1 a2]) wv wv_1 /\
 ∃ r0 a3 a4 a5, Loads P 31 ⟨r, 0, none⟩ (.agg #[.bool r0, .slice a3 a4 a5]) wv_1 /\ R (.agg #[.bool r0, .slice a3 a4 a5]) wv_1) /\
 (neg = false ->
 ∃ wv_2, Stores P 31 ⟨r, 0, none⟩ (.agg #[.bool false, .slice a0 a1 a2]) wv wv_2 /\
 ∃ r0_1 a6 a7 a8, Loads P 31 ⟨r, 0, none⟩ (.agg #[.bool r0_1, .slice a6 a7 a8]) wv_2 /\ R (.agg #[.bool r0_1, .slice a6 a7 a8]) wv_2)
theorem impl_signed_ret {a : Bool} {a0 : Option Addr} {a1 a2 : Nat} (h : impl_signed a a0 a1 a2 w R) : Ret P 170 [.bool a, .slice a0 a1 a2] w R := Ret.of_fsem Tryz.func170 rfl (Eq.mp (show _ = fsem P Tryz.f170 (fun k => []) _ R w from by kernel_rfl) h)
def impl_natAdd_j1 (a0 : World) (a1 : Option Addr -> Nat -> Nat -> Int -> Int -> World -> Prop) (mu : Option Addr -> Nat -> Nat -> Int -> Int -> World -> Nat) (a2 : Option Addr) (a3 a4 : Nat) (carry i carry_2 : Int) (a5 : World) (R : Value -> World -> Prop) : Prop :=
 (1000000000 : Int) ≠ 0 /\ ∃ a6 : Int, a6 = Int.tmod carry_2 1000000000 /\ ∀ a7 a8, New a5 (.cells ⟨[.int .i64 a6]⟩ 3 (0, 0)) a7 a8 ->
 ∃ a9 aa ab ac, Appends P [29, 29] [.slice a2 a3 a4, (.slice (some ⟨a7, 0, none⟩) 1 1)] (.slice a9 aa ab) a8 ac /\
 (1000000000 : Int) ≠ 0 /\ ∃ ae : Int, ae = IntKind.wrap .i64 (Int.tdiv carry_2 1000000000) /\ ∃ af : Int, af = IntKind.wrap .i64 (i + 1) /\ a1 a9 aa ab ae af ac /\ mu a9 aa ab ae af ac < mu a2 a3 a4 carry i a0
def impl_natAdd_j0 (a0 : Option Addr) (a1 : Nat) (a2 : World) (a3 : Option Addr -> Nat -> Nat -> Int -> Int -> World -> Prop) (mu : Option Addr -> Nat -> Nat -> Int -> Int -> World -> Nat) (a4 : Option Addr) (a5 a6 : Nat) (carry i carry_1 : Int) (W : World) (R : Value -> World -> Prop) : Prop :=
 ((decide ((i : Int) < ((a1 : Nat) : Int))) = true ->
 (0 <= (i : Int) /\ (i : Int) < (a1 : Nat)) /\ ptrS a0 fun a7 => ∃ a8, Loads P 3 (a7.add (i.toNat * 1)) (.int .i64 a8) W /\ ∃ a9 : Int, a9 = IntKind.wrap .i64 (carry_1 + a8) /\ impl_natAdd_j1 a2 a3 mu a4 a5 a6 carry i a9 W R) /\
 ((decide ((i : Int) < ((a1 : Nat) : Int))) = false ->
 impl_natAdd_j1 a2 a3 mu a4 a5 a6 carry i carry_1 W R)
def impl_natAdd (a0 : Option Addr) (a1 a2 : Nat) (a3 : Option Addr) (a4 a5 : Nat) (w : World) (R : Value -> World -> Prop) : Prop :=
 ∃ a6 : Int, a6 = (if ((a4 : Nat) : Int) > ((a1 : Nat) : Int) then ((a4 : Nat) : Int) else ((a1 : Nat) : Int)) /\ ∃ a7 : Int, a7 = IntKind.wrap .i64 (a6 + 1) /\ (0 <= (0 : Int) /\ (0 : Int) <= a7 /\ ((8 : Nat) : Int) * a7 <= 281474976710656) /\
 ∀ r wv, New w (.cells ⟨zeroRow (.int .i64 0) (a7.toNat * 1)⟩ 3 (0, 0)) r wv ->
 ∃ (a8 : Option Addr -> Nat -> Nat -> Int -> Int -> World -> Prop) (mu : Option Addr -> Nat -> Nat -> Int -> Int -> World -> Nat), a8 (some ⟨r, 0, none⟩) 0 a7.toNat 0 0 wv /\
 ∀ (a9 : Fr) (aa : World) (ab : Option Addr) (ac ae : Nat) (carry i : Int), a8 ab ac ae carry i aa ->
 ∃ af : Int, af = (if ((a4 : Nat) : Int) > ((a1 : Nat) : Int) then ((a4 : Nat) : Int) else ((a1 : Nat) : Int)) /\ ((decide ((i : Int) < af)) = true ->
 ((decide ((i : Int) < ((a1 : Nat) : Int))) = true ->
 (0 <= (i : Int) /\ (i : Int) < (a1 : Nat)) /\ ptrS a0 fun ad => ∃ ag, Loads P 3 (ad.add (i.toNat * 1)) (.int .i64 ag) aa /\ ∃ ah : Int, ah = IntKind.wrap .i64 (carry + ag) /\ impl_natAdd_j0 a3 a4 aa a8 mu ab ac ae carry i ah aa R) /\
 ((decide ((i : Int) < ((a1 : Nat) : Int))) = false ->
 impl_natAdd_j0 a3 a4 aa a8 mu ab ac ae carry i carry aa R)) /\
 ((decide ((i : Int) < af)) = false ->
 ∀ ai aj, New aa (.cells ⟨[.int .i64 carry]⟩ 3 (0, 0)) ai aj ->
 ∃ ak al am an, Appends P [29, 29] [.slice ab ac ae, (.slice (some ⟨ai, 0, none⟩) 1 1)] (.slice ak al am) aj an /\
 Calls P 181 ⟨[.slice ak al am]⟩ an fun e ao =>
 ∃ ap aq ar, e = .returned (.slice ap aq ar) /\
 R (.slice ap aq ar) ao)
theorem impl_natAdd_ret {a : Option Addr} {a0 a1 : Nat} {a2 : Option Addr} {a3 a4 : Nat} (h : impl_natAdd a a0 a1 a2 a3 a4 w R) : Ret P 171 [.slice a a0 a1, .slice a2 a3 a4] w R := Ret.of_fsem Tryz.func171 rfl (Eq.mp (show _ = fsem P Tryz.f171 (fun k => cond (Nat.beq k 5) [(5, .one .slice), (6, .one (.int .i64)), (7, .one (.int .i64))] ([])) _ R w from by kernel_rfl) h)
def impl_sameInts (a0 : Option Addr) (a1 a2 : Nat) (a3 : Option Addr) (a4 a5 : Nat) (w : World) (R : Value -> World -> Prop) : Prop :=
 ((decide ((((a1 : Nat) : Int) : Int) ≠ ((a4 : Nat) : Int))) = true ->
 R (.bool false) w) /\
 ((decide ((((a1 : Nat) : Int) : Int) ≠ ((a4 : Nat) : Int))) = false ->
 ∃ (a6 : Int -> World -> Prop) (mu : Int -> World -> Nat), a6 0 w /\
 ∀ (a7 : Fr) (wv : World) (a8 : Int), a6 a8 wv ->
 ((decide ((a8 : Int) < ((a1 : Nat) : Int))) = true ->
 (0 <= (a8 : Int) /\ (a8 : Int) < (a1 : Nat)) /\ ptrS a0 fun ad => ∃ a9, (∀ wv_1, Ext wv.drew wv_1 -> Loads P 3 (ad.add (a8.toNat * 1)) (.int .i64 a9) wv_1) /\ (0 <= (a8 : Int) /\ (a8 : Int) < (a4 : Nat)) /\ ptrS a3 fun aa => ∃ ab, (∀ wv_2, Ext wv.drew wv_2 -> Loads P 3 (aa.add (a8.toNat * 1)) (.int .i64 ab) wv_2) /\ ((decide ((a9 : Int) ≠ ab)) = true ->
 R (.bool false) wv.drew) /\
 ((decide ((a9 : Int) ≠ ab)) = false ->
 ∃ ac : Int, ac = IntKind.wrap .i64 (a8 + 1) /\ a6 ac wv.drew /\ mu ac wv.drew < mu a8 wv)) /\
 ((decide ((a8 : Int) < ((a1 : Nat) : Int))) = false ->
 R (.bool true) wv))
theorem impl_sameInts_ret {a : Option Addr} {a0 a1 : Nat} {a2 : Option Addr} {a3 a4 : Nat} (h : impl_sameInts a a0 a1 a2 a3 a4 w R) : Ret P 172 [.slice a a0 a1, .slice a2 a3 a4] w R := Ret.of_fsem Tryz.func172 rfl (Eq.mp (show _ = fsem P Tryz.f172 (fun k => cond (Nat.beq k 5) [(13, .one (.int .i64))] ([])) _ R w from by kernel_rfl) h)
def impl_NatOk_j0 (a0 : Option Addr) (a1 : Nat) (W : World) (R : Value -> World -> Prop) : Prop :=
 ∃ (a2 : Int -> World -> Prop) (mu : Int -> World -> Nat), a2 0 W /\
 ∀ (a3 : Fr) (wv : World) (a4 : Int), a2 a4 wv ->
 ((decide ((a4 : Int) < ((a1 : Nat) : Int))) = true ->
 (0 <= (a4 : Int) /\ (a4 : Int) < (a1 : Nat)) /\ ptrS a0 fun ad => ∃ a5, Loads P 3 (ad.add (a4.toNat * 1)) (.int .i64 a5) wv /\ ((decide ((a5 : Int) < 0)) = true ->
 (true = true ->
 R (.bool false) wv) /\
 (true = false ->
 ∃ a6 : Int, a6 = IntKind.wrap .i64 (a4 + 1) /\ a2 a6 wv /\ mu a6 wv < mu a4 wv)) /\
 ((decide ((a5 : Int) < 0)) = false ->
 ((decide ((1000000000 : Int) <= a5)) = true ->
 R (.bool false) wv) /\
 ((decide ((1000000000 : Int) <= a5)) = false ->
 ∃ a7 : Int, a7 = IntKind.wrap .i64 (a4 + 1) /\ a2 a7 wv /\ mu a7 wv < mu a4 wv))) /\
 ((decide ((a4 : Int) < ((a1 : Nat) : Int))) = false ->
 R (.bool true) wv)
def impl_NatOk (a0 : Option Addr) (a1 a2 : Nat) (w : World) (R : Value -> World -> Prop) : Prop :=
 ((decide ((50 : Int) < ((a1 : Nat) : Int))) = true ->
 (true = true ->
 R (.bool false) w) /\
 (true = false ->
 impl_NatOk_j0 a0 a1 w R)) /\
 ((decide ((50 : Int) < ((a1 : Nat) : Int))) = false ->
 ((decide ((0 : Int) < ((a1 : Nat) : Int))) = true ->
 ∃ a3 : Int, a3 = IntKind.wrap .i64 (((a1 : Nat) : Int) - 1) /\ (0 <= (a3 : Int) /\ (a3 : Int) < (a1 : Nat)) /\ ptrS a0 fun a4 => ∃ a5, Loads P 3 (a4.add (a3.toNat * 1)) (.int .i64 a5) w /\ ((decide ((a5 : Int) = 0)) = true ->
 R (.bool false) w) /\
 ((decide ((a5 : Int) = 0)) = false ->
 impl_NatOk_j0 a0 a1 w R)) /\
 ((decide ((0 : Int) < ((a1 : Nat) : Int))) = false ->
 (false = true ->
 R (.bool false) w) /\
 (false = false ->
 impl_NatOk_j0 a0 a1 w R)))
theorem impl_NatOk_ret {a : Option Addr} {a0 a1 : Nat} (h : impl_NatOk a a0 a1 w R) : Ret P 173 [.slice a a0 a1] w R := Ret.of_fsem Tryz.func173 rfl (Eq.mp (show _ = fsem P Tryz.f173 (fun k => cond (Nat.beq k 5) [(24, .one (.int .i64))] ([])) _ R w from by kernel_rfl) h)
def impl_CurKnown (code : ByteArray) (w : World) (R : Value -> World -> Prop) : Prop :=
 Calls P 229 ⟨[.string code]⟩ w fun e wv =>
 ∃ a0 a1 a2 a3 t7, e = .returned (.tuple #[.agg #[.string a0, .string a1, .int .i64 a2, .int .i64 a3], .bool t7]) /\
 ∀ r a4, New wv (.cells ⟨[.string ByteArray.empty, .string ByteArray.empty, .int .i64 0, .int .i64 0]⟩ 252 (0, 0)) r a4 ->
 ∃ wv_2, Stores P 252 ⟨r, 0, none⟩ (.agg #[.string a0, .string a1, .int .i64 a2, .int .i64 a3]) a4 wv_2 /\
 R (.bool t7) wv_2
theorem impl_CurKnown_ret {a : ByteArray} (h : impl_CurKnown a w R) : Ret P 177 [.string a] w R := Ret.of_fsem Tryz.func177 rfl (Eq.mp (show _ = fsem P Tryz.f177 (fun k => []) _ R w from by kernel_rfl) h)
def impl_RatRest (r0 : Bool) (a0 : Option Addr) (a1 a2 : Nat) (a3 : Option Addr) (a4 a5 : Nat) (m : Int) (w : World) (R : Value -> World -> Prop) : Prop :=
 ∀ r wv, New w (.cells ⟨[.bool r0, .slice a0 a1 a2, .slice a3 a4 a5]⟩ 60 (0, 0)) r wv ->
 ∀ a6 a7, New wv (.cells ⟨[.bool false, .slice none 0 0]⟩ 31 (0, 0)) a6 a7 ->
 ∀ a8 a9, New a7 (.cells ⟨[.bool false, .slice none 0 0, .slice none 0 0]⟩ 60 (0, 0)) a8 a9 ->
 ∃ aa ab ac ae af ag ah, Loads P 60 ⟨r, 0, none⟩ (.agg #[.bool aa, .slice ab ac ae, .slice af ag ah]) a9 /\ Calls P 231 ⟨[.agg #[.bool aa, .slice ab ac ae, .slice af ag ah], .int .i64 m]⟩ a9 fun e ai =>
 ∃ aj ak al am an, e = .returned (.tuple #[.agg #[.bool aj, .slice ak al am], .bool an]) /\
 ∀ ao ap, New ai (.cells ⟨[.bool false, .slice none 0 0]⟩ 31 (0, 0)) ao ap ->
 ∃ wv_5, Stores P 31 ⟨ao, 0, none⟩ (.agg #[.bool aj, .slice ak al am]) ap wv_5 /\
 ((!an) = true ->
 ∃ wv_6, Stores P 31 ⟨a6, 0, none⟩ (.agg #[.bool false, .slice none 0 0]) wv_5 wv_6 /\
 ∃ wv_7, Stores P 60 ⟨a8, 0, none⟩ (.agg #[.bool false, .slice none 0 0, .slice none 0 0]) wv_6 wv_7 /\
 ∃ r0_1 aq ar au, Loads P 31 ⟨a6, 0, none⟩ (.agg #[.bool r0_1, .slice aq ar au]) wv_7 /\ ∃ r0_2 av aw ax ay az b0, Loads P 60 ⟨a8, 0, none⟩ (.agg #[.bool r0_2, .slice av aw ax, .slice ay az b0]) wv_7 /\ R (.tuple #[.agg #[.bool r0_1, .slice aq ar au], .agg #[.bool r0_2, .slice av aw ax, .slice ay az b0], .bool false]) wv_7) /\
 ((!an) = false ->
 ∃ b1 b2 b3 b4, Loads P 31 ⟨ao, 0, none⟩ (.agg #[.bool b1, .slice b2 b3 b4]) wv_5 /\ Calls P 31 ⟨[.agg #[.bool b1, .slice b2 b3 b4]]⟩ wv_5 fun b5 b6 =>
 ∃ b7 b8 b9 ba bb bc bd be, b5 = .returned (.tuple #[.agg #[.bool b7, .slice b8 b9 ba, .slice bb bc bd], .bool be]) /\
 ∀ bf bg, New b6 (.cells ⟨[.bool false, .slice none 0 0, .slice none 0 0]⟩ 60 (0, 0)) bf bg ->
 ∃ wv_10, Stores P 60 ⟨bf, 0, none⟩ (.agg #[.bool b7, .slice b8 b9 ba, .slice bb bc bd]) bg wv_10 /\
 ∃ bh bi bj bk bl bm bn, Loads P 60 ⟨r, 0, none⟩ (.agg #[.bool bh, .slice bi bj bk, .slice bl bm bn]) wv_10 /\ ∃ bo bp bq br bs bt bu, Loads P 60 ⟨bf, 0, none⟩ (.agg #[.bool bo, .slice bp bq br, .slice bs bt bu]) wv_10 /\ Calls P 45 ⟨[.agg #[.bool bh, .slice bi bj bk, .slice bl bm bn], .agg #[.bool bo, .slice bp bq br, .slice bs bt bu]]⟩ wv_10 fun bv bw =>
 ∃ bx bz c0 c1 c2 c3 c4 c5, bv = .returned (.tuple #[.agg #[.bool bx, .slice bz c0 c1, .slice c2 c3 c4], .bool c5]) /\
 ∀ c6 c7, New bw (.cells ⟨[.bool false, .slice none 0 0, .slice none 0 0]⟩ 60 (0, 0)) c6 c7 ->
 ∃ wv_13, Stores P 60 ⟨c6, 0, none⟩ (.agg #[.bool bx, .slice bz c0 c1, .slice c2 c3 c4]) c7 wv_13 /\
 ((!be) = true ->
 (true = true ->
 ∃ wv_14, Stores P 31 ⟨a6, 0, none⟩ (.agg #[.bool false, .slice none 0 0]) wv_13 wv_14 /\
 ∃ wv_15, Stores P 60 ⟨a8, 0, none⟩ (.agg #[.bool false, .slice none 0 0, .slice none 0 0]) wv_14 wv_15 /\
 ∃ r0_3 c8 c9 ca, Loads P 31 ⟨a6, 0, none⟩ (.agg #[.bool r0_3, .slice c8 c9 ca]) wv_15 /\ ∃ r0_4 cb cc cd ce cf cg, Loads P 60 ⟨a8, 0, none⟩ (.agg #[.bool r0_4, .slice cb cc cd, .slice ce cf cg]) wv_15 /\ R (.tuple #[.agg #[.bool r0_3, .slice c8 c9 ca], .agg #[.bool r0_4, .slice cb cc cd, .slice ce cf cg], .bool false]) wv_15) /\
 (true = false ->
 ∃ blks : List Nat, ∃ ch ci cj ck, (∀ wv_16, EX blks wv_13.drew wv_16 -> Loads P 31 ⟨ao, 0, none⟩ (.agg #[.bool ch, .slice ci cj ck]) wv_16) /\ ∃ cl cm cn co cp cq cr, (∀ wv_17, EX blks wv_13.drew wv_17 -> Loads P 60 ⟨c6, 0, none⟩ (.agg #[.bool cl, .slice cm cn co, .slice cp cq cr]) wv_17) /\ ∃ wv_18, Stores P 31 ⟨a6, 0, none⟩ (.agg #[.bool ch, .slice ci cj ck]) wv_13.drew wv_18 /\
 EX blks wv_13.drew wv_18 /\ ∃ wv_19, Stores P 60 ⟨a8, 0, none⟩ (.agg #[.bool cl, .slice cm cn co, .slice cp cq cr]) wv_18 wv_19 /\
 ∃ r0_5 cs ct cu, Loads P 31 ⟨a6, 0, none⟩ (.agg #[.bool r0_5, .slice cs ct cu]) wv_19 /\ ∃ r0_6 cv cw cx cy cz d0, Loads P 60 ⟨a8, 0, none⟩ (.agg #[.bool r0_6, .slice cv cw cx, .slice cy cz d0]) wv_19 /\ R (.tuple #[.agg #[.bool r0_5, .slice cs ct cu], .agg #[.bool r0_6, .slice cv cw cx, .slice cy cz d0], .bool true]) wv_19)) /\
 ((!be) = false ->
 ((!c5) = true ->
 ∃ wv_20, Stores P 31 ⟨a6, 0, none⟩ (.agg #[.bool false, .slice none 0 0]) wv_13 wv_20 /\
 ∃ wv_21, Stores P 60 ⟨a8, 0, none⟩ (.agg #[.bool false, .slice none 0 0, .slice none 0 0]) wv_20 wv_21 /\
 ∃ r0_7 d1 d2 d3, Loads P 31 ⟨a6, 0, none⟩ (.agg #[.bool r0_7, .slice d1 d2 d3]) wv_21 /\ ∃ r0_8 d4 d5 d6 d7 d8 d9, Loads P 60 ⟨a8, 0, none⟩ (.agg #[.bool r0_8, .slice d4 d5 d6, .slice d7 d8 d9]) wv_21 /\ R (.tuple #[.agg #[.bool r0_7, .slice d1 d2 d3], .agg #[.bool r0_8, .slice d4 d5 d6, .slice d7 d8 d9], .bool false]) wv_21) /\
 ((!c5) = false ->
 ∃ blks_1 : List Nat, ∃ da db dc dd, (∀ wv_22, EX blks_1 wv_13.drew wv_22 -> Loads P 31 ⟨ao, 0, none⟩ (.agg #[.bool da, .slice db dc dd]) wv_22) /\ ∃ de df dg dh di dj dk, (∀ wv_23, EX blks_1 wv_13.drew wv_23 -> Loads P 60 ⟨c6, 0, none⟩ (.agg #[.bool de, .slice df dg dh, .slice di dj dk]) wv_23) /\ ∃ wv_24, Stores P 31 ⟨a6, 0, none⟩ (.agg #[.bool da, .slice db dc dd]) wv_13.drew wv_24 /\
 EX blks_1 wv_13.drew wv_24 /\ ∃ wv_25, Stores P 60 ⟨a8, 0, none⟩ (.agg #[.bool de, .slice df dg dh, .slice di dj dk]) wv_24 wv_25 /\
 ∃ r0_9 dl dm dn, Loads P 31 ⟨a6, 0, none⟩ (.agg #[.bool r0_9, .slice dl dm dn]) wv_25 /\ ∃ r0_10 dp dq dr ds dt du, Loads P 60 ⟨a8, 0, none⟩ (.agg #[.bool r0_10, .slice dp dq dr, .slice ds dt du]) wv_25 /\ R (.tuple #[.agg #[.bool r0_9, .slice dl dm dn], .agg #[.bool r0_10, .slice dp dq dr, .slice ds dt du], .bool true]) wv_25)))
theorem impl_RatRest_ret {r0 : Bool} {a : Option Addr} {a0 a1 : Nat} {a2 : Option Addr} {a3 a4 : Nat} {m : Int} (h : impl_RatRest r0 a a0 a1 a2 a3 a4 m w R) : Ret P 178 [.agg #[.bool r0, .slice a a0 a1, .slice a2 a3 a4], .int .i64 m] w R := Ret.of_fsem Tryz.func178 rfl (Eq.mp (show _ = fsem P Tryz.f178 (fun k => []) _ R w from by kernel_rfl) h)
def impl_natGcd (a0 : Option Addr) (a1 a2 : Nat) (a3 : Option Addr) (a4 a5 : Nat) (w : World) (R : Value -> World -> Prop) : Prop :=
 ∃ (a6 : Option Addr -> Nat -> Nat -> Option Addr -> Nat -> Nat -> World -> Prop) (mu : Option Addr -> Nat -> Nat -> Option Addr -> Nat -> Nat -> World -> Nat), a6 a0 a1 a2 a3 a4 a5 w /\
 ∀ (a7 : Fr) (wv : World) (a8 : Option Addr) (a9 aa : Nat) (ab : Option Addr) (ac ae : Nat), a6 a8 a9 aa ab ac ae wv ->
 ((decide ((0 : Int) < ((ac : Nat) : Int))) = true ->
 Calls P 180 ⟨[.slice a8 a9 aa, .slice ab ac ae]⟩ wv fun e af =>
 ∃ ag ah ai aj ak al, e = .returned (.tuple #[.slice ag ah ai, .slice aj ak al]) /\
 a6 ab ac ae aj ak al af /\ mu ab ac ae aj ak al af < mu a8 a9 aa ab ac ae wv) /\
 ((decide ((0 : Int) < ((ac : Nat) : Int))) = false ->
 Calls P 183 ⟨[.slice a8 a9 aa]⟩ wv fun am an =>
 ∃ ao ap aq, am = .returned (.slice ao ap aq) /\
 R (.slice ao ap aq) an)
theorem impl_natGcd_ret {a : Option Addr} {a0 a1 : Nat} {a2 : Option Addr} {a3 a4 : Nat} (h : impl_natGcd a a0 a1 a2 a3 a4 w R) : Ret P 179 [.slice a a0 a1, .slice a2 a3 a4] w R := Ret.of_fsem Tryz.func179 rfl (Eq.mp (show _ = fsem P Tryz.f179 (fun k => cond (Nat.beq k 2) [(0, .one .slice), (1, .one .slice)] ([])) _ R w from by kernel_rfl) h)
def impl_natDiv (a0 : Option Addr) (a1 a2 : Nat) (a3 : Option Addr) (a4 a5 : Nat) (w : World) (R : Value -> World -> Prop) : Prop :=
 Calls P 127 ⟨[.slice a0 a1 a2, .slice a3 a4 a5]⟩ w fun e wv =>
 ∃ a6, e = .returned (.int .i64 a6) /\
 ((decide ((a6 : Int) < 0)) = true ->
 ∀ r a7, New wv (.cells ⟨[]⟩ 3 (0, 0)) r a7 ->
 Calls P 183 ⟨[.slice a0 a1 a2]⟩ a7 fun a8 a9 =>
 ∃ aa ab ac, a8 = .returned (.slice aa ab ac) /\
 R (.tuple #[(.slice (some ⟨r, 0, none⟩) 0 0), .slice aa ab ac]) a9) /\
 ((decide ((a6 : Int) < 0)) = false ->
 ((decide ((((a4 : Nat) : Int) : Int) = 1)) = true ->
 (0 <= (0 : Int) /\ (0 : Int) < (a4 : Nat)) /\ ptrS a3 fun ad => ∃ ae, Loads P 3 (ad.add (0 * 1)) (.int .i64 ae) wv /\ Calls P 185 ⟨[.slice a0 a1 a2, .int .i64 ae]⟩ wv fun af ag =>
 ∃ ah ai aj ak, af = .returned (.tuple #[.slice ah ai aj, .int .i64 ak]) /\
 Calls P 128 ⟨[.int .i64 ak]⟩ ag fun al am =>
 ∃ an ao ap, al = .returned (.slice an ao ap) /\
 R (.tuple #[.slice ah ai aj, .slice an ao ap]) am) /\
 ((decide ((((a4 : Nat) : Int) : Int) = 1)) = false ->
 ∃ aq : Int, aq = IntKind.wrap .i64 (((a4 : Nat) : Int) - 1) /\ (0 <= (aq : Int) /\ (aq : Int) < (a4 : Nat)) /\ ptrS a3 fun ar => ∃ au, Loads P 3 (ar.add (aq.toNat * 1)) (.int .i64 au) wv /\ ∃ av : Int, av = IntKind.wrap .i64 (au + 1) /\ (av : Int) ≠ 0 /\ ∃ aw : Int, aw = IntKind.wrap .i64 (Int.tdiv 1000000000 av) /\ ∀ ax ay, New wv (.cells ⟨[.int .i64 aw]⟩ 3 (0, 0)) ax ay ->
 Calls P 109 ⟨[.slice a0 a1 a2, (.slice (some ⟨ax, 0, none⟩) 1 1)]⟩ ay fun az b0 =>
 ∃ b1 b2 b3, az = .returned (.slice b1 b2 b3) /\
 ∀ b4 b5, New b0 (.cells ⟨[.int .i64 aw]⟩ 3 (0, 0)) b4 b5 ->
 Calls P 109 ⟨[.slice a3 a4 a5, (.slice (some ⟨b4, 0, none⟩) 1 1)]⟩ b5 fun b6 b7 =>
 ∃ b8 b9 ba, b6 = .returned (.slice b8 b9 ba) /\
 ∃ (bb : Option Addr -> Nat -> Nat -> World -> Prop) (mu : Option Addr -> Nat -> Nat -> World -> Nat), bb b1 b2 b3 b7 /\
 ∀ (bc : Fr) (bd : World) (be : Option Addr) (bf bg : Nat), bb be bf bg bd ->
 ((decide ((((bf : Nat) : Int) : Int) <= ((a1 : Nat) : Int))) = true ->
 ∀ bh bi, New bd (.cells ⟨[.int .i64 0]⟩ 3 (0, 0)) bh bi ->
 ∃ bj bk bl bm, Appends P [29, 29] [.slice be bf bg, (.slice (some ⟨bh, 0, none⟩) 1 1)] (.slice bj bk bl) bi bm /\
 bb bj bk bl bm /\ mu bj bk bl bm < mu be bf bg bd) /\
 ((decide ((((bf : Nat) : Int) : Int) <= ((a1 : Nat) : Int))) = false ->
 ∃ bn : Int, bn = IntKind.wrap .i64 (((bf : Nat) : Int) - ((b9 : Nat) : Int)) /\ (0 <= (bn : Int) /\ (bn : Int) <= bn /\ ((8 : Nat) : Int) * bn <= 281474976710656) /\
 ∀ bo bp, New bd (.cells ⟨zeroRow (.int .i64 0) (bn.toNat * 1)⟩ 3 (0, 0)) bo bp ->
 ∃ bq : Int, bq = IntKind.wrap .i64 (((bn.toNat : Nat) : Int) - 1) /\ ∃ (br : Int -> World -> Prop) (bs : Int -> World -> Nat), br bq bp /\
 ∀ (bt : Fr) (bu : World) (j : Int), br j bu ->
 ((decide ((0 : Int) <= j)) = true ->
 ∃ bv : Int, bv = IntKind.wrap .i64 (j + ((b9 : Nat) : Int)) /\ ∃ bw : Int, bw = IntKind.wrap .i64 (bv + 1) /\ (0 <= (bw : Int) /\ (bw : Int) <= (bg : Nat)) /\ (0 <= (j : Int) /\ (j : Int) <= (bw.toNat : Nat)) /\ Calls P 232 ⟨[(.slice (sub be j.toNat bg 1) (bw.toNat - j.toNat) (bg - j.toNat)), .slice b8 b9 ba]⟩ bu fun bx bz =>
 ∃ c0, bx = .returned (.int .i64 c0) /\
 (0 <= (j : Int) /\ (j : Int) < (bn.toNat : Nat)) /\ ∃ wv_15, Stores P 3 ((⟨bo, 0, none⟩ : Addr).add (j.toNat * 1)) (.int .i64 c0) bz wv_15 /\
 ∃ c1 : Int, c1 = IntKind.wrap .i64 (j - 1) /\ br c1 wv_15 /\ bs c1 wv_15 < bs j bu) /\
 ((decide ((0 : Int) <= j)) = false ->
 Calls P 181 ⟨[.slice be bf bg]⟩ bu fun c2 c3 =>
 ∃ c4 c5 c6, c2 = .returned (.slice c4 c5 c6) /\
 Calls P 185 ⟨[.slice c4 c5 c6, .int .i64 aw]⟩ c3 fun c7 c8 =>
 ∃ c9 ca cb cc, c7 = .returned (.tuple #[.slice c9 ca cb, .int .i64 cc]) /\
 Calls P 181 ⟨[(.slice (some ⟨bo, 0, none⟩) bn.toNat bn.toNat)]⟩ c8 fun cd ce =>
 ∃ cf cg ch, cd = .returned (.slice cf cg ch) /\
 R (.tuple #[.slice cf cg ch, .slice c9 ca cb]) ce))))
theorem impl_natDiv_ret {a : Option Addr} {a0 a1 : Nat} {a2 : Option Addr} {a3 a4 : Nat} (h : impl_natDiv a a0 a1 a2 a3 a4 w R) : Ret P 180 [.slice a a0 a1, .slice a2 a3 a4] w R := Ret.of_fsem Tryz.func180 rfl (Eq.mp (show _ = fsem P Tryz.f180 (fun k => cond (Nat.beq k 10) [(9, .one .slice)] (cond (Nat.beq k 15) [(13, .one (.int .i64))] ([]))) _ R w from by kernel_rfl) h)
def impl_trim (a0 : Option Addr) (a1 a2 : Nat) (w : World) (R : Value -> World -> Prop) : Prop :=
 ∃ (a3 : Option Addr -> Nat -> Nat -> World -> Prop) (mu : Option Addr -> Nat -> Nat -> World -> Nat), a3 a0 a1 a2 w /\
 ∀ (a4 : Fr) (wv : World) (a5 : Option Addr) (a6 a7 : Nat), a3 a5 a6 a7 wv ->
 ((decide ((0 : Int) < ((a6 : Nat) : Int))) = true ->
 ∃ a8 : Int, a8 = IntKind.wrap .i64 (((a6 : Nat) : Int) - 1) /\ (0 <= (a8 : Int) /\ (a8 : Int) < (a6 : Nat)) /\ ptrS a5 fun ad => ∃ a9, Loads P 3 (ad.add (a8.toNat * 1)) (.int .i64 a9) wv /\ ((decide ((a9 : Int) = 0)) = true ->
 ∃ aa : Int, aa = IntKind.wrap .i64 (((a6 : Nat) : Int) - 1) /\ (0 <= (aa : Int) /\ (aa : Int) <= (a7 : Nat)) /\ a3 (sub a5 0 a7 1) (aa.toNat - 0) (a7 - 0) wv /\ mu (sub a5 0 a7 1) (aa.toNat - 0) (a7 - 0) wv < mu a5 a6 a7 wv) /\
 ((decide ((a9 : Int) = 0)) = false ->
 R (.slice a5 a6 a7) wv)) /\
 ((decide ((0 : Int) < ((a6 : Nat) : Int))) = false ->
 (false = true ->
 ∃ ab : Int, ab = IntKind.wrap .i64 (((a6 : Nat) : Int) - 1) /\ (0 <= (ab : Int) /\ (ab : Int) <= (a7 : Nat)) /\ a3 (sub a5 0 a7 1) (ab.toNat - 0) (a7 - 0) wv /\ mu (sub a5 0 a7 1) (ab.toNat - 0) (a7 - 0) wv < mu a5 a6 a7 wv) /\
 (false = false ->
 R (.slice a5 a6 a7) wv))
theorem impl_trim_ret {a : Option Addr} {a0 a1 : Nat} (h : impl_trim a a0 a1 w R) : Ret P 181 [.slice a a0 a1] w R := Ret.of_fsem Tryz.func181 rfl (Eq.mp (show _ = fsem P Tryz.f181 (fun k => cond (Nat.beq k 2) [(0, .one .slice)] ([])) _ R w from by kernel_rfl) h)
def impl_isScale (scale : Int) (w : World) (R : Value -> World -> Prop) : Prop :=
 ((decide ((0 : Int) <= scale)) = true ->
 R (.bool (decide ((scale : Int) <= 30))) w) /\
 ((decide ((0 : Int) <= scale)) = false ->
 R (.bool false) w)
theorem impl_isScale_ret {a : Int} (h : impl_isScale a w R) : Ret P 182 [.int .i64 a] w R := Ret.of_fsem Tryz.func182 rfl (Eq.mp (show _ = fsem P Tryz.f182 (fun k => []) _ R w from by kernel_rfl) h)
def impl_natCopy (a0 : Option Addr) (a1 a2 : Nat) (w : World) (R : Value -> World -> Prop) : Prop :=
 ∀ r wv, New w (.cells ⟨[]⟩ 3 (0, 0)) r wv ->
 ∃ a3 a4 a5 a6, Appends P [29, 29] [(.slice (some ⟨r, 0, none⟩) 0 0), .slice a0 a1 a2] (.slice a3 a4 a5) wv a6 /\
 R (.slice a3 a4 a5) a6
theorem impl_natCopy_ret {a : Option Addr} {a0 a1 : Nat} (h : impl_natCopy a a0 a1 w R) : Ret P 183 [.slice a a0 a1] w R := Ret.of_fsem Tryz.func183 rfl (Eq.mp (show _ = fsem P Tryz.f183 (fun k => []) _ R w from by kernel_rfl) h)
def impl_natSmall (a0 : Option Addr) (a1 a2 : Nat) (d : Int) (w : World) (R : Value -> World -> Prop) : Prop :=
 (0 <= (((a1 : Nat) : Int) : Int) /\ (((a1 : Nat) : Int) : Int) <= ((a1 : Nat) : Int) /\ ((8 : Nat) : Int) * ((a1 : Nat) : Int) <= 281474976710656) /\
 ∀ r wv, New w (.cells ⟨zeroRow (.int .i64 0) (a1 * 1)⟩ 3 (0, 0)) r wv ->
 ∃ a3 : Int, a3 = IntKind.wrap .i64 (((a1 : Nat) : Int) - 1) /\ ∃ (a4 : Int -> Int -> World -> Prop) (mu : Int -> Int -> World -> Nat), a4 0 a3 wv /\
 ∀ (a5 : Fr) (a6 : World) (rest i : Int), a4 rest i a6 ->
 ((decide ((0 : Int) <= i)) = true ->
 ∃ a7 : Int, a7 = IntKind.wrap .i64 (rest * 1000000000) /\ (0 <= (i : Int) /\ (i : Int) < (a1 : Nat)) /\ ptrS a0 fun ad => ∃ a8, Loads P 3 (ad.add (i.toNat * 1)) (.int .i64 a8) a6 /\ ∃ a9 : Int, a9 = IntKind.wrap .i64 (a7 + a8) /\ (d : Int) ≠ 0 /\ ∃ aa : Int, aa = IntKind.wrap .i64 (Int.tdiv a9 d) /\ (0 <= (i : Int) /\ (i : Int) < (a1 : Nat)) /\ ∃ wv_2, Stores P 3 ((⟨r, 0, none⟩ : Addr).add (i.toNat * 1)) (.int .i64 aa) a6 wv_2 /\
 (d : Int) ≠ 0 /\ ∃ ab : Int, ab = Int.tmod a9 d /\ ∃ ac : Int, ac = IntKind.wrap .i64 (i - 1) /\ a4 ab ac wv_2 /\ mu ab ac wv_2 < mu rest i a6) /\
 ((decide ((0 : Int) <= i)) = false ->
 Calls P 181 ⟨[(.slice (some ⟨r, 0, none⟩) a1 a1)]⟩ a6 fun e ae =>
 ∃ af ag ah, e = .returned (.slice af ag ah) /\
 R (.tuple #[.slice af ag ah, .int .i64 rest]) ae)
theorem impl_natSmall_ret {a : Option Addr} {a0 a1 : Nat} {d : Int} (h : impl_natSmall a a0 a1 d w R) : Ret P 185 [.slice a a0 a1, .int .i64 d] w R := Ret.of_fsem Tryz.func185 rfl (Eq.mp (show _ = fsem P Tryz.f185 (fun k => cond (Nat.beq k 5) [(7, .one (.int .i64)), (8, .one (.int .i64))] ([])) _ R w from by kernel_rfl) h)
def impl_Pad (s : ByteArray) (n : Int) (w : World) (R : Value -> World -> Prop) : Prop :=
 ((decide ((n : Int) <= ((s.size : Nat) : Int))) = true ->
 (true = true ->
 R (.string s) w) /\
 (true = false ->
 ∃ a0 : Int, a0 = IntKind.wrap .i64 (n - ((s.size : Nat) : Int)) /\ Calls P 234 ⟨[(.string (S [48])), .int .i64 a0]⟩ w fun e wv =>
 ∃ a1, e = .returned (.string a1) /\
 a1.size + s.size <= 9223372036854775807 /\ ∃ a2 : ByteArray, a2 = a1 ++ s /\ R (.string a2) wv)) /\
 ((decide ((n : Int) <= ((s.size : Nat) : Int))) = false ->
 ((decide ((2000 : Int) < n)) = true ->
 R (.string s) w) /\
 ((decide ((2000 : Int) < n)) = false ->
 ∃ a3 : Int, a3 = IntKind.wrap .i64 (n - ((s.size : Nat) : Int)) /\ Calls P 234 ⟨[(.string (S [48])), .int .i64 a3]⟩ w fun a4 a5 =>
 ∃ a6, a4 = .returned (.string a6) /\
 a6.size + s.size <= 9223372036854775807 /\ ∃ a7 : ByteArray, a7 = a6 ++ s /\ R (.string a7) a5))
theorem impl_Pad_ret {s : ByteArray} {n : Int} (h : impl_Pad s n w R) : Ret P 187 [.string s, .int .i64 n] w R := Ret.of_fsem Tryz.func187 rfl (Eq.mp (show _ = fsem P Tryz.f187 (fun k => []) _ R w from by kernel_rfl) h)
def impl_natText (a0 : Option Addr) (a1 a2 : Nat) (w : World) (R : Value -> World -> Prop) : Prop :=
 ((decide ((((a1 : Nat) : Int) : Int) = 0)) = true ->
 R (.string (S [48])) w) /\
 ((decide ((((a1 : Nat) : Int) : Int) = 0)) = false ->
 ∃ a3 : Int, a3 = IntKind.wrap .i64 (((a1 : Nat) : Int) - 1) /\ (0 <= (a3 : Int) /\ (a3 : Int) < (a1 : Nat)) /\ ptrS a0 fun ad => ∃ a4, Loads P 3 (ad.add (a3.toNat * 1)) (.int .i64 a4) w /\ Calls P 131 ⟨[.int .i64 a4]⟩ w fun e wv =>
 ∃ a5, e = .returned (.string a5) /\
 ∃ a6 : Int, a6 = IntKind.wrap .i64 (((a1 : Nat) : Int) - 2) /\ ∃ (a7 : ByteArray -> Int -> World -> Prop) (mu : ByteArray -> Int -> World -> Nat), a7 a5 a6 wv /\
 ∀ (a8 : Fr) (a9 : World) (text : ByteArray) (i : Int), a7 text i a9 ->
 ((decide ((0 : Int) <= i)) = true ->
 (0 <= (i : Int) /\ (i : Int) < (a1 : Nat)) /\ ptrS a0 fun aa => ∃ ab, Loads P 3 (aa.add (i.toNat * 1)) (.int .i64 ab) a9 /\ Calls P 131 ⟨[.int .i64 ab]⟩ a9 fun ac ae =>
 ∃ af, ac = .returned (.string af) /\
 Calls P 187 ⟨[.string af, .int .i64 9]⟩ ae fun ag ah =>
 ∃ ai, ag = .returned (.string ai) /\
 text.size + ai.size <= 9223372036854775807 /\ ∃ aj : ByteArray, aj = text ++ ai /\ ∃ ak : Int, ak = IntKind.wrap .i64 (i - 1) /\ a7 aj ak ah /\ mu aj ak ah < mu text i a9) /\
 ((decide ((0 : Int) <= i)) = false ->
 R (.string text) a9))
theorem impl_natText_ret {a : Option Addr} {a0 a1 : Nat} (h : impl_natText a a0 a1 w R) : Ret P 188 [.slice a a0 a1] w R := Ret.of_fsem Tryz.func188 rfl (Eq.mp (show _ = fsem P Tryz.f188 (fun k => cond (Nat.beq k 6) [(3, .one .str), (4, .one (.int .i64))] ([])) _ R w from by kernel_rfl) h)
def impl_scaled_1 (d0 : Bool) (a0 : Option Addr) (a1 a2 : Nat) (d2 : Int) (cap0 : Option Addr) (w : World) (R : Value -> World -> Prop) : Prop :=
 ∀ r wv, New w (.cells ⟨[.bool d0, .slice a0 a1 a2, .int .i64 d2]⟩ 36 (0, 0)) r wv ->
 ∀ a3 a4, New wv (.cells ⟨[.bool false, .slice none 0 0]⟩ 31 (0, 0)) a3 a4 ->
 ∃ t6, (∀ wv_2, Ext a4.drew wv_2 -> Loads P 4 (((⟨r, 0, none⟩ : Addr).add 0).add 0) (.bool t6) wv_2) /\ ∃ a5 a6 a7, (∀ wv_3, Ext a4.drew wv_3 -> Loads P 29 (((⟨r, 0, none⟩ : Addr).add 0).add 1) (.slice a5 a6 a7) wv_3) /\ ptrS cap0 fun ad => ∃ a8, (∀ wv_4, Ext a4.drew wv_4 -> Loads P 3 ad (.int .i64 a8) wv_4) /\ ∃ a9, (∀ wv_5, Ext a4.drew wv_5 -> Loads P 3 ((⟨r, 0, none⟩ : Addr).add 2) (.int .i64 a9) wv_5) /\ ∃ aa : Int, aa = IntKind.wrap .i64 (a8 - a9) /\ Calls P 113 ⟨[.int .i64 aa]⟩ a4.drew fun e ab =>
 ∃ ac ae af, e = .returned (.slice ac ae af) /\
 Ext a4.drew ab /\ Calls P 109 ⟨[.slice a5 a6 a7, .slice ac ae af]⟩ ab fun ag ah =>
 ∃ ai aj ak, ag = .returned (.slice ai aj ak) /\
 Ext ab ah /\ Calls P 170 ⟨[.bool t6, .slice ai aj ak]⟩ ah fun al am =>
 ∃ an ao ap aq, al = .returned (.agg #[.bool an, .slice ao ap aq]) /\
 ∃ wv_9, Stores P 31 ⟨a3, 0, none⟩ (.agg #[.bool an, .slice ao ap aq]) am wv_9 /\
 ∃ r0 ar au av, Loads P 31 ⟨a3, 0, none⟩ (.agg #[.bool r0, .slice ar au av]) wv_9 /\ R (.agg #[.bool r0, .slice ar au av]) wv_9
theorem impl_scaled_1_ret {d0 : Bool} {a : Option Addr} {a0 a1 : Nat} {d2 : Int} {a2 : Option Addr} (h : impl_scaled_1 d0 a a0 a1 d2 a2 w R) : Ret P 195 [.agg #[.bool d0, .slice a a0 a1, .int .i64 d2], .pointer a2] w R := Ret.of_fsem Tryz.func195 rfl (Eq.mp (show _ = fsem P Tryz.f195 (fun k => []) _ R w from by kernel_rfl) h)
end Go.Proofs.YtbgokfhcgcoipaaGreatDoor
namespace Go.Proofs.YtbgokfhcgcoipaaGreatDoor
variable {w : World} {R : Value -> World -> Prop}
open Go Go.Proofs.YtbgokfhcgcoipaaGreatDoor.Sx
set_option maxRecDepth 100000
def spec_l02Cap (a0 : Option Addr) (a1 a2 : Nat) (w : World) (R : Value -> World -> Prop) : Prop :=
 Calls P 230 ⟨[.slice a0 a1 a2]⟩ w fun e wv =>
 ∃ a3 a4 a5, e = .returned (.slice a3 a4 a5) /\
 ((decide ((50 : Int) < ((a4 : Nat) : Int))) = true ->
 R (.slice none 0 0) wv) /\
 ((decide ((50 : Int) < ((a4 : Nat) : Int))) = false ->
 R (.slice a3 a4 a5) wv)
theorem spec_l02Cap_ret {a : Option Addr} {a0 a1 : Nat} (h : spec_l02Cap a a0 a1 w R) : Ret P 225 [.slice a a0 a1] w R := Ret.of_fsem Tryz.func225 rfl (Eq.mp (show _ = fsem P Tryz.f225 (fun k => []) _ R w from by kernel_rfl) h)
def impl_currencyOf (code : ByteArray) (w : World) (R : Value -> World -> Prop) : Prop :=
 ∀ r wv, New w (.cells ⟨[.string ByteArray.empty, .string ByteArray.empty, .int .i64 0, .int .i64 0]⟩ 252 (0, 0)) r wv ->
 ∃ (t6 : Value), Loads P 283 ⟨0, 0, none⟩ t6 wv /\ ∃ (a0 : Int -> World -> Prop) (mu : Int -> World -> Nat), a0 0 wv /\
 ∀ (a1 : Fr) (a2 : World) (t7 : Int), a0 t7 a2 ->
 ((decide ((t7 : Int) < 20)) = true ->
 indexS P 283 t6 (.int .i64 t7) fun (el : Value) => ∀ a3 a4, New a2 (.cells ⟨[.string ByteArray.empty, .string ByteArray.empty, .int .i64 0, .int .i64 0]⟩ 252 (0, 0)) a3 a4 ->
 ∃ wv_3, Stores P 252 ⟨a3, 0, none⟩ el a4 wv_3 /\
 ∃ a5, Loads P 9 ((⟨a3, 0, none⟩ : Addr).add 0) (.string a5) wv_3 /\ ((decide (a5 = code)) = true ->
 ∃ a6 a7 a8 a9, Loads P 252 ⟨a3, 0, none⟩ (.agg #[.string a6, .string a7, .int .i64 a8, .int .i64 a9]) wv_3 /\ ∃ wv_4, Stores P 252 ⟨r, 0, none⟩ (.agg #[.string a6, .string a7, .int .i64 a8, .int .i64 a9]) wv_3 wv_4 /\
 ∃ r0 r1 r2 r3, Loads P 252 ⟨r, 0, none⟩ (.agg #[.string r0, .string r1, .int .i64 r2, .int .i64 r3]) wv_4 /\ R (.tuple #[.agg #[.string r0, .string r1, .int .i64 r2, .int .i64 r3], .bool true]) wv_4) /\
 ((decide (a5 = code)) = false ->
 ∃ aa : Int, aa = IntKind.wrap .i64 (t7 + 1) /\ a0 aa wv_3 /\ mu aa wv_3 < mu t7 a2)) /\
 ((decide ((t7 : Int) < 20)) = false ->
 ∃ wv_5, Stores P 252 ⟨r, 0, none⟩ (.agg #[.string ByteArray.empty, .string ByteArray.empty, .int .i64 0, .int .i64 0]) a2 wv_5 /\
 ∃ r0_1 r1_1 r2_1 r3_1, Loads P 252 ⟨r, 0, none⟩ (.agg #[.string r0_1, .string r1_1, .int .i64 r2_1, .int .i64 r3_1]) wv_5 /\ R (.tuple #[.agg #[.string r0_1, .string r1_1, .int .i64 r2_1, .int .i64 r3_1], .bool false]) wv_5)
theorem impl_currencyOf_ret {a : ByteArray} (h : impl_currencyOf a w R) : Ret P 229 [.string a] w R := Ret.of_fsem Tryz.func229 rfl (Eq.mp (show _ = fsem P Tryz.f229 (fun k => cond (Nat.beq k 3) [(7, .one (.int .i64))] ([])) _ R w from by kernel_rfl) h)
def spec_l02Trim (a0 : Option Addr) (a1 a2 : Nat) (w : World) (R : Value -> World -> Prop) : Prop :=
 ∃ (a3 : Int -> World -> Prop) (mu : Int -> World -> Nat), a3 ((a1 : Nat) : Int) w /\
 ∀ (a4 : Fr) (wv : World) (n : Int), a3 n wv ->
 ((decide ((0 : Int) < n)) = true ->
 ∃ a5 : Int, a5 = IntKind.wrap .i64 (n - 1) /\ (0 <= (a5 : Int) /\ (a5 : Int) < (a1 : Nat)) /\ ptrS a0 fun ad => ∃ a6, Loads P 3 (ad.add (a5.toNat * 1)) (.int .i64 a6) wv /\ ((decide ((a6 : Int) = 0)) = true ->
 ∃ a7 : Int, a7 = IntKind.wrap .i64 (n - 1) /\ a3 a7 wv /\ mu a7 wv < mu n wv) /\
 ((decide ((a6 : Int) = 0)) = false ->
 (0 <= (n : Int) /\ (n : Int) <= (a2 : Nat)) /\ R (.slice (sub a0 0 a2 1) (n.toNat - 0) (a2 - 0)) wv)) /\
 ((decide ((0 : Int) < n)) = false ->
 (false = true ->
 ∃ a8 : Int, a8 = IntKind.wrap .i64 (n - 1) /\ a3 a8 wv /\ mu a8 wv < mu n wv) /\
 (false = false ->
 (0 <= (n : Int) /\ (n : Int) <= (a2 : Nat)) /\ R (.slice (sub a0 0 a2 1) (n.toNat - 0) (a2 - 0)) wv))
theorem spec_l02Trim_ret {a : Option Addr} {a0 a1 : Nat} (h : spec_l02Trim a a0 a1 w R) : Ret P 230 [.slice a a0 a1] w R := Ret.of_fsem Tryz.func230 rfl (Eq.mp (show _ = fsem P Tryz.f230 (fun k => cond (Nat.beq k 3) [(3, .one (.int .i64))] ([])) _ R w from by kernel_rfl) h)
def impl_RatRound (r0 : Bool) (a0 : Option Addr) (a1 a2 : Nat) (a3 : Option Addr) (a4 a5 : Nat) (m : Int) (w : World) (R : Value -> World -> Prop) : Prop :=
 ∀ r wv, New w (.cells ⟨[.bool r0, .slice a0 a1 a2, .slice a3 a4 a5]⟩ 60 (0, 0)) r wv ->
 ∀ a6 a7, New wv (.cells ⟨[.bool false, .slice none 0 0]⟩ 31 (0, 0)) a6 a7 ->
 ∃ a8 a9 aa ab ac ae af, Loads P 60 ⟨r, 0, none⟩ (.agg #[.bool a8, .slice a9 aa ab, .slice ac ae af]) a7 /\ Calls P 132 ⟨[.agg #[.bool a8, .slice a9 aa ab, .slice ac ae af]]⟩ a7 fun e ag =>
 ∃ t7, e = .returned (.bool t7) /\
 ((!t7) = true ->
 (true = true ->
 ∃ wv_3, Stores P 31 ⟨a6, 0, none⟩ (.agg #[.bool false, .slice none 0 0]) ag wv_3 /\
 ∃ r0_1 ah ai aj, Loads P 31 ⟨a6, 0, none⟩ (.agg #[.bool r0_1, .slice ah ai aj]) wv_3 /\ R (.tuple #[.agg #[.bool r0_1, .slice ah ai aj], .bool false]) wv_3) /\
 (true = false ->
 ∃ ak al am an, Loads P 31 ((⟨r, 0, none⟩ : Addr).add 0) (.agg #[.bool ak, .slice al am an]) ag /\ ∃ ao ap aq, Loads P 29 ((⟨r, 0, none⟩ : Addr).add 2) (.slice ao ap aq) ag /\ Calls P 280 ⟨[.agg #[.bool ak, .slice al am an], .slice ao ap aq, .int .i64 m]⟩ ag fun ar au =>
 ∃ av aw ax ay, ar = .returned (.agg #[.bool av, .slice aw ax ay]) /\
 ∃ wv_5, Stores P 31 ⟨a6, 0, none⟩ (.agg #[.bool av, .slice aw ax ay]) au wv_5 /\
 ∃ r0_2 az b0 b1, Loads P 31 ⟨a6, 0, none⟩ (.agg #[.bool r0_2, .slice az b0 b1]) wv_5 /\ R (.tuple #[.agg #[.bool r0_2, .slice az b0 b1], .bool true]) wv_5)) /\
 ((!t7) = false ->
 Calls P 279 ⟨[.int .i64 m]⟩ ag fun b2 b3 =>
 ∃ b4, b2 = .returned (.bool b4) /\
 ((!b4) = true ->
 ∃ wv_7, Stores P 31 ⟨a6, 0, none⟩ (.agg #[.bool false, .slice none 0 0]) b3 wv_7 /\
 ∃ r0_3 b5 b6 b7, Loads P 31 ⟨a6, 0, none⟩ (.agg #[.bool r0_3, .slice b5 b6 b7]) wv_7 /\ R (.tuple #[.agg #[.bool r0_3, .slice b5 b6 b7], .bool false]) wv_7) /\
 ((!b4) = false ->
 ∃ b8 b9 ba bb, Loads P 31 ((⟨r, 0, none⟩ : Addr).add 0) (.agg #[.bool b8, .slice b9 ba bb]) b3 /\ ∃ bc bd be, Loads P 29 ((⟨r, 0, none⟩ : Addr).add 2) (.slice bc bd be) b3 /\ Calls P 280 ⟨[.agg #[.bool b8, .slice b9 ba bb], .slice bc bd be, .int .i64 m]⟩ b3 fun bf bg =>
 ∃ bh bi bj bk, bf = .returned (.agg #[.bool bh, .slice bi bj bk]) /\
 ∃ wv_9, Stores P 31 ⟨a6, 0, none⟩ (.agg #[.bool bh, .slice bi bj bk]) bg wv_9 /\
 ∃ r0_4 bl bm bn, Loads P 31 ⟨a6, 0, none⟩ (.agg #[.bool r0_4, .slice bl bm bn]) wv_9 /\ R (.tuple #[.agg #[.bool r0_4, .slice bl bm bn], .bool true]) wv_9))
theorem impl_RatRound_ret {r0 : Bool} {a : Option Addr} {a0 a1 : Nat} {a2 : Option Addr} {a3 a4 : Nat} {m : Int} (h : impl_RatRound r0 a a0 a1 a2 a3 a4 m w R) : Ret P 231 [.agg #[.bool r0, .slice a a0 a1, .slice a2 a3 a4], .int .i64 m] w R := Ret.of_fsem Tryz.func231 rfl (Eq.mp (show _ = fsem P Tryz.f231 (fun k => []) _ R w from by kernel_rfl) h)
def impl_divStep_j0 (q_1 : Int) (W : World) (R : Value -> World -> Prop) : Prop :=
 R (.int .i64 q_1) W
def impl_divStep_j1 (q_2 : Int) (a0 : World) (R : Value -> World -> Prop) : Prop :=
 R (.int .i64 q_2) a0
def impl_divStep_j2 (q_3 : Int) (a0 : World) (R : Value -> World -> Prop) : Prop :=
 R (.int .i64 q_3) a0
def impl_divStep_j3 (q_4 : Int) (a0 : World) (R : Value -> World -> Prop) : Prop :=
 R (.int .i64 q_4) a0
def impl_divStep (a0 : Option Addr) (a1 a2 : Nat) (a3 : Option Addr) (a4 a5 : Nat) (w : World) (R : Value -> World -> Prop) : Prop :=
 (0 <= (((a4 : Nat) : Int) : Int) /\ (((a4 : Nat) : Int) : Int) < (a1 : Nat)) /\ ptrS a0 fun ad => ∃ a6, (∀ wv, Ext w.drew wv -> Loads P 3 (ad.add (a4 * 1)) (.int .i64 a6) wv) /\ ∃ a7 : Int, a7 = IntKind.wrap .i64 (a6 * 1000000000) /\ ∃ a8 : Int, a8 = IntKind.wrap .i64 (((a4 : Nat) : Int) - 1) /\ (0 <= (a8 : Int) /\ (a8 : Int) < (a1 : Nat)) /\ ptrS a0 fun a9 => ∃ aa, (∀ wv_1, Ext w.drew wv_1 -> Loads P 3 (a9.add (a8.toNat * 1)) (.int .i64 aa) wv_1) /\ ∃ ab : Int, ab = IntKind.wrap .i64 (a7 + aa) /\ ∃ ac : Int, ac = IntKind.wrap .i64 (((a4 : Nat) : Int) - 1) /\ (0 <= (ac : Int) /\ (ac : Int) < (a4 : Nat)) /\ ptrS a3 fun ae => ∃ af, Loads P 3 (ae.add (ac.toNat * 1)) (.int .i64 af) w.drew /\ (af : Int) ≠ 0 /\ ∃ ag : Int, ag = IntKind.wrap .i64 (Int.tdiv ab af) /\ ∃ ah : Int, ah = (if 999999999 < ag then 999999999 else ag) /\ ∃ (ai : Int -> World -> Prop) (mu : Int -> World -> Nat), ai ah w.drew /\
 ∀ (aj : Fr) (ak : World) (q : Int), ai q ak ->
 ((decide ((0 : Int) < q)) = true ->
 ∃ al : Int, al = IntKind.wrap .i64 (((a4 : Nat) : Int) - 1) /\ (0 <= (al : Int) /\ (al : Int) < (a4 : Nat)) /\ ptrS a3 fun am => ∃ an, (∀ wv_3, Ext ak.drew wv_3 -> Loads P 3 (am.add (al.toNat * 1)) (.int .i64 an) wv_3) /\ ∃ ao : Int, ao = IntKind.wrap .i64 (q * an) /\ ∃ ap : Int, ap = IntKind.wrap .i64 (ab - ao) /\ ((decide ((ap : Int) < 1000000000)) = true ->
 ∃ aq : Int, aq = IntKind.wrap .i64 (((a4 : Nat) : Int) - 2) /\ (0 <= (aq : Int) /\ (aq : Int) < (a4 : Nat)) /\ ptrS a3 fun ar => ∃ au, (∀ wv_4, Ext ak.drew wv_4 -> Loads P 3 (ar.add (aq.toNat * 1)) (.int .i64 au) wv_4) /\ ∃ av : Int, av = IntKind.wrap .i64 (q * au) /\ ∃ aw : Int, aw = IntKind.wrap .i64 (((a4 : Nat) : Int) - 1) /\ (0 <= (aw : Int) /\ (aw : Int) < (a4 : Nat)) /\ ptrS a3 fun ax => ∃ ay, (∀ wv_5, Ext ak.drew wv_5 -> Loads P 3 (ax.add (aw.toNat * 1)) (.int .i64 ay) wv_5) /\ ∃ az : Int, az = IntKind.wrap .i64 (q * ay) /\ ∃ b0 : Int, b0 = IntKind.wrap .i64 (ab - az) /\ ∃ b1 : Int, b1 = IntKind.wrap .i64 (b0 * 1000000000) /\ ∃ b2 : Int, b2 = IntKind.wrap .i64 (((a4 : Nat) : Int) - 2) /\ (0 <= (b2 : Int) /\ (b2 : Int) < (a1 : Nat)) /\ ptrS a0 fun b3 => ∃ b4, (∀ wv_6, Ext ak.drew wv_6 -> Loads P 3 (b3.add (b2.toNat * 1)) (.int .i64 b4) wv_6) /\ ∃ b5 : Int, b5 = IntKind.wrap .i64 (b1 + b4) /\ ((decide ((b5 : Int) < av)) = true ->
 ∃ b6 : Int, b6 = IntKind.wrap .i64 (q - 1) /\ ai b6 ak.drew /\ mu b6 ak.drew < mu q ak) /\
 ((decide ((b5 : Int) < av)) = false ->
 Calls P 281 ⟨[.slice a0 a1 a2, .slice a3 a4 a5, .int .i64 q]⟩ ak.drew fun e b7 =>
 ∃ b8, e = .returned (.bool b8) /\
 (b8 = true ->
 ∃ b9 : Int, b9 = IntKind.wrap .i64 (q - 1) /\ Calls P 282 ⟨[.slice a0 a1 a2, .slice a3 a4 a5]⟩ b7 fun ba bb =>
 ba = .returned (.tuple #[]) /\
 impl_divStep_j0 b9 bb R) /\
 (b8 = false ->
 impl_divStep_j0 q b7 R))) /\
 ((decide ((ap : Int) < 1000000000)) = false ->
 (false = true ->
 ∃ bc : Int, bc = IntKind.wrap .i64 (q - 1) /\ ai bc ak.drew /\ mu bc ak.drew < mu q ak) /\
 (false = false ->
 Calls P 281 ⟨[.slice a0 a1 a2, .slice a3 a4 a5, .int .i64 q]⟩ ak.drew fun bd be =>
 ∃ bf, bd = .returned (.bool bf) /\
 (bf = true ->
 ∃ bg : Int, bg = IntKind.wrap .i64 (q - 1) /\ Calls P 282 ⟨[.slice a0 a1 a2, .slice a3 a4 a5]⟩ be fun bh bi =>
 bh = .returned (.tuple #[]) /\
 impl_divStep_j1 bg bi R) /\
 (bf = false ->
 impl_divStep_j1 q be R)))) /\
 ((decide ((0 : Int) < q)) = false ->
 (false = true ->
 ∃ bj : Int, bj = IntKind.wrap .i64 (((a4 : Nat) : Int) - 2) /\ (0 <= (bj : Int) /\ (bj : Int) < (a4 : Nat)) /\ ptrS a3 fun bk => ∃ bl, (∀ wv_11, Ext ak.drew wv_11 -> Loads P 3 (bk.add (bj.toNat * 1)) (.int .i64 bl) wv_11) /\ ∃ bm : Int, bm = IntKind.wrap .i64 (q * bl) /\ ∃ bn : Int, bn = IntKind.wrap .i64 (((a4 : Nat) : Int) - 1) /\ (0 <= (bn : Int) /\ (bn : Int) < (a4 : Nat)) /\ ptrS a3 fun bo => ∃ bp, (∀ wv_12, Ext ak.drew wv_12 -> Loads P 3 (bo.add (bn.toNat * 1)) (.int .i64 bp) wv_12) /\ ∃ bq : Int, bq = IntKind.wrap .i64 (q * bp) /\ ∃ br : Int, br = IntKind.wrap .i64 (ab - bq) /\ ∃ bs : Int, bs = IntKind.wrap .i64 (br * 1000000000) /\ ∃ bt : Int, bt = IntKind.wrap .i64 (((a4 : Nat) : Int) - 2) /\ (0 <= (bt : Int) /\ (bt : Int) < (a1 : Nat)) /\ ptrS a0 fun bu => ∃ bv, (∀ wv_13, Ext ak.drew wv_13 -> Loads P 3 (bu.add (bt.toNat * 1)) (.int .i64 bv) wv_13) /\ ∃ bw : Int, bw = IntKind.wrap .i64 (bs + bv) /\ ((decide ((bw : Int) < bm)) = true ->
 ∃ bx : Int, bx = IntKind.wrap .i64 (q - 1) /\ ai bx ak.drew /\ mu bx ak.drew < mu q ak) /\
 ((decide ((bw : Int) < bm)) = false ->
 Calls P 281 ⟨[.slice a0 a1 a2, .slice a3 a4 a5, .int .i64 q]⟩ ak.drew fun bz c0 =>
 ∃ c1, bz = .returned (.bool c1) /\
 (c1 = true ->
 ∃ c2 : Int, c2 = IntKind.wrap .i64 (q - 1) /\ Calls P 282 ⟨[.slice a0 a1 a2, .slice a3 a4 a5]⟩ c0 fun c3 c4 =>
 c3 = .returned (.tuple #[]) /\
 impl_divStep_j2 c2 c4 R) /\
 (c1 = false ->
 impl_divStep_j2 q c0 R))) /\
 (false = false ->
 (false = true ->
 ∃ c5 : Int, c5 = IntKind.wrap .i64 (q - 1) /\ ai c5 ak.drew /\ mu c5 ak.drew < mu q ak) /\
 (false = false ->
 Calls P 281 ⟨[.slice a0 a1 a2, .slice a3 a4 a5, .int .i64 q]⟩ ak.drew fun c6 c7 =>
 ∃ c8, c6 = .returned (.bool c8) /\
 (c8 = true ->
 ∃ c9 : Int, c9 = IntKind.wrap .i64 (q - 1) /\ Calls P 282 ⟨[.slice a0 a1 a2, .slice a3 a4 a5]⟩ c7 fun ca cb =>
 ca = .returned (.tuple #[]) /\
 impl_divStep_j3 c9 cb R) /\
 (c8 = false ->
 impl_divStep_j3 q c7 R))))
theorem impl_divStep_ret {a : Option Addr} {a0 a1 : Nat} {a2 : Option Addr} {a3 a4 : Nat} (h : impl_divStep a a0 a1 a2 a3 a4 w R) : Ret P 232 [.slice a a0 a1, .slice a2 a3 a4] w R := Ret.of_fsem Tryz.func232 rfl (Eq.mp (show _ = fsem P Tryz.f232 (fun k => cond (Nat.beq k 5) [(7, .one (.int .i64))] ([])) _ R w from by kernel_rfl) h)
end Go.Proofs.YtbgokfhcgcoipaaGreatDoor
namespace Go.Proofs.YtbgokfhcgcoipaaGreatDoor
variable {w : World} {R : Value -> World -> Prop}
open Go Go.Proofs.YtbgokfhcgcoipaaGreatDoor.Sx
set_option maxRecDepth 100000
def impl_isMode (m : Int) (w : World) (R : Value -> World -> Prop) : Prop :=
 ((decide ((0 : Int) <= m)) = true ->
 R (.bool (decide ((m : Int) <= 6))) w) /\
 ((decide ((0 : Int) <= m)) = false ->
 R (.bool false) w)
theorem impl_isMode_ret {m : Int} (h : impl_isMode m w R) : Ret P 279 [.int .i64 m] w R := Ret.of_fsem Tryz.func279 rfl (Eq.mp (show _ = fsem P Tryz.f279 (fun k => []) _ R w from by kernel_rfl) h)
def impl_roundQuotient_j0 (r a0 : Nat) (a1 : Option Addr) (a2 a3 : Nat) (W : World) (R : Value -> World -> Prop) : Prop :=
 ∃ a4, Loads P 4 ((⟨r, 0, none⟩ : Addr).add 0) (.bool a4) W /\ Calls P 170 ⟨[.bool a4, .slice a1 a2 a3]⟩ W fun a5 a6 =>
 ∃ a7 a8 a9 aa, a5 = .returned (.agg #[.bool a7, .slice a8 a9 aa]) /\
 ∃ wv_12, Stores P 31 ⟨a0, 0, none⟩ (.agg #[.bool a7, .slice a8 a9 aa]) a6 wv_12 /\
 ∃ r0 ab ac ae, Loads P 31 ⟨a0, 0, none⟩ (.agg #[.bool r0, .slice ab ac ae]) wv_12 /\ R (.agg #[.bool r0, .slice ab ac ae]) wv_12
def impl_roundQuotient (num0 : Bool) (a0 : Option Addr) (a1 a2 : Nat) (a3 : Option Addr) (a4 a5 : Nat) (m : Int) (w : World) (R : Value -> World -> Prop) : Prop :=
 ∀ r wv, New w (.cells ⟨[.bool num0, .slice a0 a1 a2]⟩ 31 (0, 0)) r wv ->
 ∀ a6 a7, New wv (.cells ⟨[.bool false, .slice none 0 0]⟩ 31 (0, 0)) a6 a7 ->
 ∃ a8 a9 aa, Loads P 29 ((⟨r, 0, none⟩ : Addr).add 1) (.slice a8 a9 aa) a7 /\ Calls P 180 ⟨[.slice a8 a9 aa, .slice a3 a4 a5]⟩ a7 fun e ab =>
 ∃ ac ae af ag ah ai, e = .returned (.tuple #[.slice ac ae af, .slice ag ah ai]) /\
 ((decide ((0 : Int) < ((ah : Nat) : Int))) = true ->
 Calls P 316 ⟨[]⟩ ab.drew fun aj ak =>
 ∃ (al : ByteArray) (am : Value) (an : ByteArray) (ao : Value) (ap : ByteArray) (aq : Value) (ar : ByteArray) (au : Value) (av : ByteArray) (aw : Value) (ax : ByteArray) (ay : Value) (az : ByteArray) (b0 : Value), aj = .returned (.agg #[.string al, am, .string an, ao, .string ap, aq, .string ar, au, .string av, aw, .string ax, ay, .string az, b0]) /\
 Ext ab.drew ak /\ indexS P 316 (.agg #[.string al, am, .string an, ao, .string ap, aq, .string ar, au, .string av, aw, .string ax, ay, .string az, b0]) (.int .i64 m) fun (el : Value) => fieldS P 315 el 1 fun (fl : Value) => ∃ b1, (∀ wv_4, Ext ab.drew wv_4 -> Loads P 4 ((⟨r, 0, none⟩ : Addr).add 0) (.bool b1) wv_4) /\ Calls P 171 ⟨[.slice ag ah ai, .slice ag ah ai]⟩ ak fun b2 b3 =>
 ∃ b4 b5 b6, b2 = .returned (.slice b4 b5 b6) /\
 Ext ak b3 /\ Calls P 127 ⟨[.slice b4 b5 b6, .slice a3 a4 a5]⟩ b3 fun b7 b8 =>
 ∃ b9, b7 = .returned (.int .i64 b9) /\
 Ext b3 b8 /\ Calls P 317 ⟨[.slice ac ae af]⟩ b8 fun ba bb =>
 ∃ bc, ba = .returned (.bool bc) /\
 Ext b8 bb /\ CallW P fl [.bool b1, .int .i64 b9, (.bool (!bc))] bb fun bd be =>
 ∃ bf, bd = .returned (.bool bf) /\
 (bf = true ->
 ∀ bg bh, New be (.cells ⟨[.int .i64 1]⟩ 3 (0, 0)) bg bh ->
 Calls P 171 ⟨[.slice ac ae af, (.slice (some ⟨bg, 0, none⟩) 1 1)]⟩ bh fun bi bj =>
 ∃ bk bl bm, bi = .returned (.slice bk bl bm) /\
 impl_roundQuotient_j0 r a6 bk bl bm bj R) /\
 (bf = false ->
 impl_roundQuotient_j0 r a6 ac ae af be R)) /\
 ((decide ((0 : Int) < ((ah : Nat) : Int))) = false ->
 (false = true ->
 ∀ bn bo, New ab.drew (.cells ⟨[.int .i64 1]⟩ 3 (0, 0)) bn bo ->
 Calls P 171 ⟨[.slice ac ae af, (.slice (some ⟨bn, 0, none⟩) 1 1)]⟩ bo fun bp bq =>
 ∃ br bs bt, bp = .returned (.slice br bs bt) /\
 impl_roundQuotient_j0 r a6 br bs bt bq R) /\
 (false = false ->
 impl_roundQuotient_j0 r a6 ac ae af ab.drew R))
theorem impl_roundQuotient_ret {a : Bool} {a0 : Option Addr} {a1 a2 : Nat} {a3 : Option Addr} {a4 a5 : Nat} {m : Int} (h : impl_roundQuotient a a0 a1 a2 a3 a4 a5 m w R) : Ret P 280 [.agg #[.bool a, .slice a0 a1 a2], .slice a3 a4 a5, .int .i64 m] w R := Ret.of_fsem Tryz.func280 rfl (Eq.mp (show _ = fsem P Tryz.f280 (fun k => []) _ R w from by kernel_rfl) h)
def impl_subTimes_j0 (a0 : Option Addr) (a1 : Nat) (wv : World) (a2 : Int -> Int -> World -> Prop) (mu : Int -> Int -> World -> Nat) (borrow a3 : Int) (borrow_1 n : Int) (W : World) (R : Value -> World -> Prop) : Prop :=
 (0 <= (a3 : Int) /\ (a3 : Int) < (a1 : Nat)) /\ ptrS a0 fun a4 => ∃ wv_1, Stores P 3 (a4.add (a3.toNat * 1)) (.int .i64 n) W wv_1 /\
 ∃ a5 : Int, a5 = IntKind.wrap .i64 (a3 + 1) /\ a2 borrow_1 a5 wv_1 /\ mu borrow_1 a5 wv_1 < mu borrow a3 wv
def impl_subTimes (a0 : Option Addr) (a1 a2 : Nat) (a3 : Option Addr) (a4 a5 : Nat) (q : Int) (w : World) (R : Value -> World -> Prop) : Prop :=
 ∃ (a6 : Int -> Int -> World -> Prop) (mu : Int -> Int -> World -> Nat), a6 0 0 w /\
 ∀ (a7 : Fr) (wv : World) (borrow a8 : Int), a6 borrow a8 wv ->
 ((decide ((a8 : Int) < ((a4 : Nat) : Int))) = true ->
 (0 <= (a8 : Int) /\ (a8 : Int) < (a4 : Nat)) /\ ptrS a3 fun ad => ∃ a9, Loads P 3 (ad.add (a8.toNat * 1)) (.int .i64 a9) wv /\ (0 <= (a8 : Int) /\ (a8 : Int) < (a1 : Nat)) /\ ptrS a0 fun aa => ∃ ab, Loads P 3 (aa.add (a8.toNat * 1)) (.int .i64 ab) wv /\ ∃ ac : Int, ac = IntKind.wrap .i64 (a9 * q) /\ ∃ ae : Int, ae = IntKind.wrap .i64 (ab - ac) /\ ∃ af : Int, af = IntKind.wrap .i64 (ae - borrow) /\ ((decide ((af : Int) < 0)) = true ->
 ∃ ag : Int, ag = IntKind.wrap .i64 (0 - af) /\ ∃ ah : Int, ah = IntKind.wrap .i64 (ag + 1000000000) /\ ∃ ai : Int, ai = IntKind.wrap .i64 (ah - 1) /\ (1000000000 : Int) ≠ 0 /\ ∃ aj : Int, aj = IntKind.wrap .i64 (Int.tdiv ai 1000000000) /\ ∃ ak : Int, ak = IntKind.wrap .i64 (aj * 1000000000) /\ ∃ al : Int, al = IntKind.wrap .i64 (af + ak) /\ impl_subTimes_j0 a0 a1 wv a6 mu borrow a8 aj al wv R) /\
 ((decide ((af : Int) < 0)) = false ->
 impl_subTimes_j0 a0 a1 wv a6 mu borrow a8 0 af wv R)) /\
 ((decide ((a8 : Int) < ((a4 : Nat) : Int))) = false ->
 (0 <= (((a4 : Nat) : Int) : Int) /\ (((a4 : Nat) : Int) : Int) < (a1 : Nat)) /\ ptrS a0 fun am => ∃ an, Loads P 3 (am.add (a4 * 1)) (.int .i64 an) wv /\ ∃ ao : Int, ao = IntKind.wrap .i64 (an - borrow) /\ (0 <= (((a4 : Nat) : Int) : Int) /\ (((a4 : Nat) : Int) : Int) < (a1 : Nat)) /\ ptrS a0 fun ap => ∃ wv_2, Stores P 3 (ap.add (a4 * 1)) (.int .i64 ao) wv wv_2 /\
 (0 <= (((a4 : Nat) : Int) : Int) /\ (((a4 : Nat) : Int) : Int) < (a1 : Nat)) /\ ptrS a0 fun aq => ∃ ar, Loads P 3 (aq.add (a4 * 1)) (.int .i64 ar) wv_2 /\ R (.bool (decide ((ar : Int) < 0))) wv_2)
theorem impl_subTimes_ret {a : Option Addr} {a0 a1 : Nat} {a2 : Option Addr} {a3 a4 : Nat} {q : Int} (h : impl_subTimes a a0 a1 a2 a3 a4 q w R) : Ret P 281 [.slice a a0 a1, .slice a2 a3 a4, .int .i64 q] w R := Ret.of_fsem Tryz.func281 rfl (Eq.mp (show _ = fsem P Tryz.f281 (fun k => cond (Nat.beq k 4) [(7, .one (.int .i64)), (13, .one (.int .i64))] ([])) _ R w from by kernel_rfl) h)
def impl_addBack (a0 : Option Addr) (a1 a2 : Nat) (a3 : Option Addr) (a4 a5 : Nat) (w : World) (R : Value -> World -> Prop) : Prop :=
 ∃ (a6 : Int -> Int -> World -> Prop) (mu : Int -> Int -> World -> Nat), a6 0 0 w /\
 ∀ (a7 : Fr) (wv : World) (carry t9 : Int), a6 carry t9 wv ->
 ((decide ((t9 : Int) < ((a4 : Nat) : Int))) = true ->
 (0 <= (t9 : Int) /\ (t9 : Int) < (a4 : Nat)) /\ ptrS a3 fun ad => ∃ a8, Loads P 3 (ad.add (t9.toNat * 1)) (.int .i64 a8) wv /\ (0 <= (t9 : Int) /\ (t9 : Int) < (a1 : Nat)) /\ ptrS a0 fun a9 => ∃ aa, Loads P 3 (a9.add (t9.toNat * 1)) (.int .i64 aa) wv /\ ∃ ab : Int, ab = IntKind.wrap .i64 (aa + a8) /\ ∃ ac : Int, ac = IntKind.wrap .i64 (carry + ab) /\ (1000000000 : Int) ≠ 0 /\ ∃ ae : Int, ae = Int.tmod ac 1000000000 /\ (0 <= (t9 : Int) /\ (t9 : Int) < (a1 : Nat)) /\ ptrS a0 fun af => ∃ wv_1, Stores P 3 (af.add (t9.toNat * 1)) (.int .i64 ae) wv wv_1 /\
 (1000000000 : Int) ≠ 0 /\ ∃ ag : Int, ag = IntKind.wrap .i64 (Int.tdiv ac 1000000000) /\ ∃ ah : Int, ah = IntKind.wrap .i64 (t9 + 1) /\ a6 ag ah wv_1 /\ mu ag ah wv_1 < mu carry t9 wv) /\
 ((decide ((t9 : Int) < ((a4 : Nat) : Int))) = false ->
 (0 <= (((a4 : Nat) : Int) : Int) /\ (((a4 : Nat) : Int) : Int) < (a1 : Nat)) /\ ptrS a0 fun ai => ∃ aj, Loads P 3 (ai.add (a4 * 1)) (.int .i64 aj) wv /\ ∃ ak : Int, ak = IntKind.wrap .i64 (aj + carry) /\ (0 <= (((a4 : Nat) : Int) : Int) /\ (((a4 : Nat) : Int) : Int) < (a1 : Nat)) /\ ptrS a0 fun al => ∃ wv_2, Stores P 3 (al.add (a4 * 1)) (.int .i64 ak) wv wv_2 /\
 R (.tuple #[]) wv_2)
theorem impl_addBack_ret {a : Option Addr} {a0 a1 : Nat} {a2 : Option Addr} {a3 a4 : Nat} (h : impl_addBack a a0 a1 a2 a3 a4 w R) : Ret P 282 [.slice a a0 a1, .slice a2 a3 a4] w R := Ret.of_fsem Tryz.func282 rfl (Eq.mp (show _ = fsem P Tryz.f282 (fun k => cond (Nat.beq k 3) [(4, .one (.int .i64)), (9, .one (.int .i64))] ([])) _ R w from by kernel_rfl) h)
def impl_roundModes (w : World) (R : Value -> World -> Prop) : Prop :=
 ∀ r wv, New w (.cells ⟨[.string ByteArray.empty, .nilFunc, .string ByteArray.empty, .nilFunc, .string ByteArray.empty, .nilFunc, .string ByteArray.empty, .nilFunc, .string ByteArray.empty, .nilFunc, .string ByteArray.empty, .nilFunc, .string ByteArray.empty, .nilFunc]⟩ 316 (0, 0)) r wv ->
 ∃ wv_1, Stores P 316 ⟨r, 0, none⟩ (.agg #[(.string (S [100, 111, 119, 110])), (.func (.func 339) #[] #[]), (.string (S [117, 112])), (.func (.func 340) #[] #[]), (.string (S [102, 108, 111, 111, 114])), (.func (.func 341) #[] #[]), (.string (S [99, 101, 105, 108])), (.func (.func 342) #[] #[]), (.string (S [104, 97, 108, 102, 100, 111, 119, 110])), (.func (.func 343) #[] #[]), (.string (S [104, 97, 108, 102, 117, 112])), (.func (.func 344) #[] #[]), (.string (S [104, 97, 108, 102, 101, 118, 101, 110])), (.func (.func 345) #[] #[])]) wv wv_1 /\
 ∃ (r0 : ByteArray) (r1 : Value) (r2 : ByteArray) (r3 : Value) (r4 : ByteArray) (r5 : Value) (r6 : ByteArray) (r7 : Value) (r8 : ByteArray) (r9 : Value) (r10 : ByteArray) (r11 : Value) (r12 : ByteArray) (r13 : Value), Loads P 316 ⟨r, 0, none⟩ (.agg #[.string r0, r1, .string r2, r3, .string r4, r5, .string r6, r7, .string r8, r9, .string r10, r11, .string r12, r13]) wv_1 /\ R (.agg #[.string r0, r1, .string r2, r3, .string r4, r5, .string r6, r7, .string r8, r9, .string r10, r11, .string r12, r13]) wv_1
theorem impl_roundModes_eq (w : World) (R : Value -> World -> Prop) : impl_roundModes w R = fsem P Tryz.f316 (fun k => []) [] R w := by kernel_rfl
set_option maxHeartbeats 4000000 in
theorem impl_roundModes_ret {w : World} {R : Value -> World -> Prop} (h : impl_roundModes w R) : Ret P 316 [] w R := by
  have h2 := impl_roundModes_eq w R
  have h3 : fsem P Tryz.f316 (fun k => []) [] R w := by rw [<- h2]; exact h
  exact Ret.of_fsem (fn := Tryz.f316) (car := (fun k => [])) (args := []) (w := w) (R := R) Tryz.func316 rfl h3
def impl_NatEven (a0 : Option Addr) (a1 a2 : Nat) (w : World) (R : Value -> World -> Prop) : Prop :=
 Calls P 173 ⟨[.slice a0 a1 a2]⟩ w fun e wv =>
 ∃ t4, e = .returned (.bool t4) /\
 (t4 = true ->
 ((decide ((((a1 : Nat) : Int) : Int) = 0)) = true ->
 R (.bool true) wv) /\
 ((decide ((((a1 : Nat) : Int) : Int) = 0)) = false ->
 (0 <= (0 : Int) /\ (0 : Int) < (a1 : Nat)) /\ ptrS a0 fun ad => ∃ a3, Loads P 3 (ad.add (0 * 1)) (.int .i64 a3) wv /\ (2 : Int) ≠ 0 /\ ∃ a4 : Int, a4 = Int.tmod a3 2 /\ R (.bool (decide ((a4 : Int) = 0))) wv)) /\
 (t4 = false ->
 R (.bool false) wv)
theorem impl_NatEven_ret {a : Option Addr} {a0 a1 : Nat} (h : impl_NatEven a a0 a1 w R) : Ret P 317 [.slice a a0 a1] w R := Ret.of_fsem Tryz.func317 rfl (Eq.mp (show _ = fsem P Tryz.f317 (fun k => []) _ R w from by kernel_rfl) h)
def impl_roundModes_1 (a0 : Bool) (a1 : Int) (a2 : Bool) (w : World) (R : Value -> World -> Prop) : Prop :=
 R (.bool false) w
theorem impl_roundModes_1_ret {a0 : Bool} {a1 : Int} {a2 : Bool} (h : impl_roundModes_1 a0 a1 a2 w R) : Ret P 339 [.bool a0, .int .i64 a1, .bool a2] w R := Ret.of_fsem Tryz.func339 rfl (Eq.mp (show _ = fsem P Tryz.f339 (fun k => []) _ R w from by kernel_rfl) h)
def impl_roundModes_2 (a0 : Bool) (a1 : Int) (a2 : Bool) (w : World) (R : Value -> World -> Prop) : Prop :=
 R (.bool true) w
theorem impl_roundModes_2_ret {a0 : Bool} {a1 : Int} {a2 : Bool} (h : impl_roundModes_2 a0 a1 a2 w R) : Ret P 340 [.bool a0, .int .i64 a1, .bool a2] w R := Ret.of_fsem Tryz.func340 rfl (Eq.mp (show _ = fsem P Tryz.f340 (fun k => []) _ R w from by kernel_rfl) h)
def impl_roundModes_3 (neg : Bool) (u : Int) (u_1 : Bool) (w : World) (R : Value -> World -> Prop) : Prop :=
 R (.bool neg) w
theorem impl_roundModes_3_ret {a : Bool} {u : Int} {a0 : Bool} (h : impl_roundModes_3 a u a0 w R) : Ret P 341 [.bool a, .int .i64 u, .bool a0] w R := Ret.of_fsem Tryz.func341 rfl (Eq.mp (show _ = fsem P Tryz.f341 (fun k => []) _ R w from by kernel_rfl) h)
def impl_roundModes_4 (neg : Bool) (u : Int) (u_1 : Bool) (w : World) (R : Value -> World -> Prop) : Prop :=
 R (.bool (!neg)) w
theorem impl_roundModes_4_ret {a : Bool} {u : Int} {a0 : Bool} (h : impl_roundModes_4 a u a0 w R) : Ret P 342 [.bool a, .int .i64 u, .bool a0] w R := Ret.of_fsem Tryz.func342 rfl (Eq.mp (show _ = fsem P Tryz.f342 (fun k => []) _ R w from by kernel_rfl) h)
def impl_roundModes_5 (u : Bool) (half : Int) (u_1 : Bool) (w : World) (R : Value -> World -> Prop) : Prop :=
 R (.bool (decide ((0 : Int) < half))) w
theorem impl_roundModes_5_ret {u : Bool} {a : Int} {a0 : Bool} (h : impl_roundModes_5 u a a0 w R) : Ret P 343 [.bool u, .int .i64 a, .bool a0] w R := Ret.of_fsem Tryz.func343 rfl (Eq.mp (show _ = fsem P Tryz.f343 (fun k => []) _ R w from by kernel_rfl) h)
def impl_roundModes_6 (u : Bool) (half : Int) (u_1 : Bool) (w : World) (R : Value -> World -> Prop) : Prop :=
 R (.bool (decide ((0 : Int) <= half))) w
theorem impl_roundModes_6_ret {u : Bool} {a : Int} {a0 : Bool} (h : impl_roundModes_6 u a a0 w R) : Ret P 344 [.bool u, .int .i64 a, .bool a0] w R := Ret.of_fsem Tryz.func344 rfl (Eq.mp (show _ = fsem P Tryz.f344 (fun k => []) _ R w from by kernel_rfl) h)
def impl_roundModes_7 (u : Bool) (half : Int) (odd : Bool) (w : World) (R : Value -> World -> Prop) : Prop :=
 ((decide ((0 : Int) < half)) = true ->
 R (.bool true) w) /\
 ((decide ((0 : Int) < half)) = false ->
 ((decide ((half : Int) = 0)) = true ->
 R (.bool odd) w) /\
 ((decide ((half : Int) = 0)) = false ->
 R (.bool false) w))
theorem impl_roundModes_7_ret {u : Bool} {a : Int} {a0 : Bool} (h : impl_roundModes_7 u a a0 w R) : Ret P 345 [.bool u, .int .i64 a, .bool a0] w R := Ret.of_fsem Tryz.func345 rfl (Eq.mp (show _ = fsem P Tryz.f345 (fun k => []) _ R w from by kernel_rfl) h)
end Go.Proofs.YtbgokfhcgcoipaaGreatDoor
namespace Go.Proofs.YtbgokfhcgcoipaaGreatDoor.Sx
open Go Go.RowKit
theorem Ext.le {a b : World} (h : Ext a b) : a.heap.size <= b.heap.size := h.size
def Seg (w : World) (b off : Nat) (cs : List Value) : Prop := ∀ j v, cs[j]? = some v -> w.cell? ⟨b, off + j, none⟩ = some v
theorem Seg.nil {w : World} {b off : Nat} : Seg w b off [] := fun j v h => by simp at h
theorem Seg.drop {w : World} {b off : Nat} {cs : List Value} (h : Seg w b off cs) (k : Nat) : Seg w b (off + k) (cs.drop k) := fun j v hj => by
  rw [List.getElem?_drop] at hj
  have := h _ _ hj
  rwa [Nat.add_assoc]
theorem Seg.take {w : World} {b off : Nat} {cs : List Value} (h : Seg w b off cs) (k : Nat) : Seg w b off (cs.take k) := fun j v hj => by
  rw [List.getElem?_take] at hj
  split at hj
  · exact h _ _ hj
  · cases hj
theorem Seg.ext {w w' : World} {b off : Nat} {cs : List Value} (h : Seg w b off cs) (he : Ext w w') : Seg w' b off cs := fun j v hj => by
  have h1 := h j v hj
  rw [<- h1]
  exact he.cell (World.block_lt_of_cell? w _ h1)
theorem Seg.chg {S : List Nat} {w w' : World} {b off : Nat} {cs : List Value} (h : Seg w b off cs) (he : Chg S w w') (hb : b ∉ S) : Seg w' b off cs := fun j v hj => by
  have h1 := h j v hj
  rw [<- h1]
  exact World.cell?_of_block (he.block b (World.block_lt_of_cell? w _ h1) hb)
def Blk (w : World) (b : Nat) (e : TypeId) (xs : List Value) : Prop := w.heap[b]? = some (.cells ⟨xs⟩ e (0, 0))
theorem Blk.lt {w : World} {b : Nat} {e : TypeId} {xs : List Value} (h : Blk w b e xs) : b < w.heap.size := (Array.getElem?_eq_some_iff.1 h).1
theorem Blk.ext {w w' : World} {b : Nat} {e : TypeId} {xs : List Value} (h : Blk w b e xs) (he : Ext w w') : Blk w' b e xs := (he.block b h.lt).trans h
theorem Blk.chg {S : List Nat} {w w' : World} {b : Nat} {e : TypeId} {xs : List Value} (h : Blk w b e xs) (he : Chg S w w') (hb : b ∉ S) : Blk w' b e xs := (he.block b h.lt hb).trans h
theorem Blk.cell {w : World} {b : Nat} {e : TypeId} {xs : List Value} (h : Blk w b e xs) (j : Nat) : w.cell? ⟨b, j, none⟩ = xs[j]? := by
  rw [cell_of_row w b j _ e (0, 0) h]; simp
theorem Blk.seg {w : World} {b : Nat} {e : TypeId} {xs : List Value} (h : Blk w b e xs) : Seg w b 0 xs := fun j v hj => by rw [Nat.zero_add, h.cell, hj]
theorem New.ext {w w' : World} {o : Obj} {r : Nat} (h : New w o r w') : Ext w w' := by
  obtain ⟨rfl, rfl⟩ := h
  exact (Below.refl _ _).alloc (Nat.le_refl _) _
theorem New.size {w w' : World} {o : Obj} {r : Nat} (h : New w o r w') : w'.heap.size = w.heap.size + 1 := by
  obtain ⟨rfl, rfl⟩ := h; simp
theorem New.blk {w w' : World} {xs : List Value} {e : TypeId} {r : Nat} (h : New w (.cells ⟨xs⟩ e (0, 0)) r w') : Blk w' r e xs := by
  obtain ⟨rfl, rfl⟩ := h
  exact heap_alloc_new w _
theorem addr_add (b o k : Nat) : (⟨b, o, none⟩ : Addr).add k = ⟨b, o + k, none⟩ := Addr.add_lit b o k
section
variable {P : Program}
def cellT (P : Program) (t : TypeId) : Bool :=
  match P.underlying t, P.info? t with
  | some (.struct _), _ => false
  | some (.array _ _), _ => false
  | some _, some i => Nat.beq i.size 1
  | _, _ => false
def aggT (P : Program) (t : TypeId) (n : Nat) : Bool :=
  match P.underlying t, P.info? t with
  | some (.struct _), some i => Nat.beq i.size n
  | some (.array _ _), some i => Nat.beq i.size n
  | _, _ => false
theorem cellT_spec {t : TypeId} (h : cellT P t = true) : (∀ w, (isAgg t).run P w = .ok false w) /\ ∃ i, P.info? t = some i /\ i.size = 1 := by
  unfold cellT at h
  split at h <;> try cases h
  rename_i d i hs ha hu hi
  refine ⟨fun w => ?_, i, hi, Nat.eq_of_beq_eq_true h⟩
  unfold isAgg
  rw [Sem.run_bind, underlying_run hu w]
  cases d <;> first | rfl | (exact absurd rfl (hs _)) | (exact absurd rfl (ha _ _))
theorem aggT_spec {t : TypeId} {n : Nat} (h : aggT P t n = true) : (∀ w, (isAgg t).run P w = .ok true w) /\ ∃ i, P.info? t = some i /\ i.size = n := by
  unfold aggT at h
  split at h
  · rename_i fs i hu hi
    exact ⟨fun w => by unfold isAgg; rw [Sem.run_bind, underlying_run hu w]; rfl, i, hi, Nat.eq_of_beq_eq_true h⟩
  · rename_i k e i hu hi
    exact ⟨fun w => by unfold isAgg; rw [Sem.run_bind, underlying_run hu w]; rfl, i, hi, Nat.eq_of_beq_eq_true h⟩
  · cases h
theorem loads1 {w : World} {t : TypeId} {b o : Nat} {v : Value} (ht : cellT P t = true) (h : w.cell? ⟨b, o, none⟩ = some v) : Loads P t ⟨b, o, none⟩ v w := by
  unfold Loads loadVar
  rw [Sem.run_bind, (cellT_spec ht).1]
  simp [h]
theorem loadsA {w : World} {t : TypeId} {b o : Nat} {cs : List Value} (ht : aggT P t cs.length = true) (h : Seg w b o cs) : Loads P t ⟨b, o, none⟩ (.agg ⟨cs⟩) w := by
  obtain ⟨h1, i, hi, hn⟩ := aggT_spec ht
  unfold Loads loadVar
  rw [Sem.run_bind, h1]
  simp only [Result.andThen_ok, if_true, Sem.run_bind, sizeOf_run hi, hn]
  rw [run_loadCells_list (P := P) w ⟨b, o, none⟩ cs fun j v hv => by rw [addr_add]; exact h j v hv]
  rfl
theorem Seg.load {w : World} {t : TypeId} {b o k : Nat} {cs : List Value} {v : Value} (h : Seg w b o cs) (ht : cellT P t = true) (hx : cs[k]? = some v) : Loads P t ((⟨b, o, none⟩ : Addr).add k) v w := by
  rw [addr_add]; exact loads1 ht (h _ _ hx)
theorem Seg.loadA {w : World} {t : TypeId} {b o k : Nat} {cs xs : List Value} (h : Seg w b o cs) (ht : aggT P t xs.length = true) (hx : (cs.drop k).take xs.length = xs) : Loads P t ((⟨b, o, none⟩ : Addr).add k) (.agg ⟨xs⟩) w := by
  rw [addr_add]
  refine loadsA ht ?_
  have := (h.drop k).take xs.length
  rwa [hx] at this
theorem Blk.load {w : World} {t : TypeId} {b k : Nat} {e : TypeId} {cs : List Value} {v : Value} (h : Blk w b e cs) (ht : cellT P t = true) (hx : cs[k]? = some v) : Loads P t ((⟨b, 0, none⟩ : Addr).add k) v w :=
  h.seg.load ht hx
theorem Blk.loadA {w : World} {t : TypeId} {b k : Nat} {e : TypeId} {cs xs : List Value} (h : Blk w b e cs) (ht : aggT P t xs.length = true) (hx : (cs.drop k).take xs.length = xs) : Loads P t ((⟨b, 0, none⟩ : Addr).add k) (.agg ⟨xs⟩) w :=
  h.seg.loadA ht hx
theorem setRow_chg (w : World) (b : Nat) (cs : Array Value) : Chg [b] w (w.setRow b cs) :=
  ⟨rfl, rfl, rfl, by simp, fun k _ hk => setRow_other w b k _ (by simpa using hk)⟩
theorem Blk.store {w : World} {t : TypeId} {b k : Nat} {e : TypeId} {cs : List Value} {v : Value} (h : Blk w b e cs) (ht : cellT P t = true) (hk : k < cs.length) (hv : v.oneCell' = true) :
    ∃ w', Stores P t ((⟨b, 0, none⟩ : Addr).add k) v w w' /\ Blk w' b e (cs.set k v) /\ Chg [b] w w' /\ w'.heap.size = w.heap.size := by
  obtain ⟨_, i, hi, hn⟩ := cellT_spec ht
  have hc : v.cells = #[v] := by cases v <;> first | rfl | (simp [Value.oneCell'] at hv)
  have hst := run_storeCells_at P b k e [v] 0 ⟨cs⟩ w h (by simp only [List.length_cons, List.length_nil]; show k + 0 + 1 <= cs.length; omega) (by simpa using hv)
  refine ⟨_, ?_, setRow_heap w b ⟨cs⟩ _ e _ h, setRow_chg _ _ _, by simp⟩
  · unfold Stores storeVar
    rw [addr_add, Nat.zero_add]
    simp only [Sem.run_bind, sizeOf_run hi, Result.andThen_ok, hc, hn, List.size_toArray, List.length_cons, List.length_nil]
    simp only [Nat.zero_add, ne_eq, not_true, if_false, Sem.run_pure, Result.andThen_ok]
    rw [hst]
    congr 3
    simp only [Nat.add_zero, List.length_cons, List.length_nil, Nat.zero_add]
    rw [List.set_eq_take_append_cons_drop]
    simp [hk]
theorem Blk.storeA {w : World} {t : TypeId} {b k : Nat} {e : TypeId} {cs xs : List Value} (h : Blk w b e cs) (ht : aggT P t xs.length = true) (hk : k + xs.length <= cs.length) (hv : ∀ v ∈ xs, v.oneCell' = true) :
    ∃ w', Stores P t ((⟨b, 0, none⟩ : Addr).add k) (.agg ⟨xs⟩) w w' /\ Blk w' b e (cs.take k ++ xs ++ cs.drop (k + xs.length)) /\ Chg [b] w w' /\ w'.heap.size = w.heap.size := by
  obtain ⟨_, i, hi, hn⟩ := aggT_spec ht
  have hst := run_storeCells_at P b k e xs 0 ⟨cs⟩ w h (by simpa using hk) hv
  refine ⟨_, ?_, setRow_heap w b ⟨cs⟩ _ e _ h, setRow_chg _ _ _, by simp⟩
  unfold Stores storeVar
  rw [addr_add, Nat.zero_add]
  simp only [Sem.run_bind, sizeOf_run hi, Result.andThen_ok, Value.cells, hn, List.size_toArray]
  simp only [ne_eq, not_true, if_false, Sem.run_pure, Result.andThen_ok]
  rw [hst]
  simp
def sliceT (P : Program) (t e : TypeId) (z : Value) (size bytes : Nat) : Prop :=
 P.underlying t = some (.slice e) /\ (P.info? e).map (fun i => (i.zero, i.size, i.bytes)) = some (some z, size, bytes) /\ z.cells.size = size /\ 0 < size
def Own (w : World) (base : Nat) (e : TypeId) (size : Nat) (p : Option Addr) (n c : Nat) (xs : List Value) : Prop := w.ownsRow base e size (.slice p n c) n xs
theorem Own.nil (w : World) (base : Nat) (e : TypeId) (size : Nat) : Own w base e size none 0 0 [] := World.ownsRow_nil w base e size
theorem Own.ext {w w' : World} {base : Nat} {e : TypeId} {size : Nat} {p : Option Addr} {n c : Nat} {xs : List Value} (h : Own w base e size p n c xs) (he : Ext w w') : Own w' base e size p n c xs :=
  h.kept (row := none) ⟨he.os, he.tape, he.output, he.size, fun k hk _ => he.block k hk⟩ (by cases p <;> simp [Value.ownBlock])
theorem Own.of_blk {w : World} {base : Nat} {e : TypeId} {size : Nat} {r n : Nat} {xs : List Value} (h : Blk w r e xs) (hb : base <= r) (hl : xs.length = n * size) (hn : n <= maxLen) : Own w base e size (some ⟨r, 0, none⟩) n n xs :=
  ⟨hl, .inr ⟨r, n, ⟨xs⟩, rfl, hb, h, Nat.le_refl _, hn, by simpa using hl, by simp [<- hl]⟩⟩
theorem Own.of_blk0 {w : World} {base : Nat} {e : TypeId} {size : Nat} {r n : Nat} {xs : List Value} (h : Blk w r e xs) (hb : base <= r) (hl : xs.length = n * size) (hn : n <= maxLen) : Own w base e size (some ⟨r, 0, none⟩) 0 n [] :=
  ⟨by simp, .inr ⟨r, n, ⟨xs⟩, rfl, hb, h, Nat.zero_le _, hn, by simpa using hl, by simp⟩⟩
theorem Own.len {w : World} {base : Nat} {e : TypeId} {size : Nat} {p : Option Addr} {n c : Nat} {xs : List Value} (h : Own w base e size p n c xs) : xs.length = n * size := h.1
theorem Own.le {w : World} {base : Nat} {e : TypeId} {size : Nat} {p : Option Addr} {n c : Nat} {xs : List Value} (h : Own w base e size p n c xs) : n <= c := by
  rcases h.2 with ⟨h1, h2⟩ | ⟨g, cap, cur, h1, _, _, h3, _⟩
  · omega
  · simp only [Value.slice.injEq] at h1; omega
theorem Own.capLe {w : World} {base : Nat} {e : TypeId} {size : Nat} {p : Option Addr} {n c : Nat} {xs : List Value} (h : Own w base e size p n c xs) : c <= 9223372036854775807 := by
  rcases h.2 with ⟨h1, h2⟩ | ⟨g, cap, cur, h1, _, _, h3, h4, _⟩
  · simp only [Value.slice.injEq] at h1; omega
  · simp only [Value.slice.injEq] at h1; simp only [maxLen] at h4; omega
theorem Own.seg {w : World} {base : Nat} {e : TypeId} {size : Nat} {p : Option Addr} {n c : Nat} {xs : List Value} (h : Own w base e size p n c xs) (hn : 0 < n) : ∃ b, p = some ⟨b, 0, none⟩ /\ base <= b /\ Seg w b 0 xs := by
  rcases h.2 with ⟨h1, h2⟩ | ⟨g, cap, cur, h1, hb, hg, h3, h4, h5, h6⟩
  · omega
  · simp only [Value.slice.injEq] at h1
    refine ⟨g, h1.1, hb, fun j v hj => ?_⟩
    rw [Nat.zero_add, cell_of_row w g j cur e (0, 0) hg]
    rw [<- h6, List.getElem?_take] at hj
    split at hj
    · simpa using hj
    · cases hj
theorem Own.mono {w : World} {base base' : Nat} {e : TypeId} {size : Nat} {p : Option Addr} {n c : Nat} {xs : List Value} (h : Own w base e size p n c xs) (hb : base' <= base) : Own w base' e size p n c xs := by
  refine ⟨h.1, ?_⟩
  rcases h.2 with h1 | ⟨g, cap, cur, h1, h2, h3⟩
  · exact .inl h1
  · exact .inr ⟨g, cap, cur, h1, Nat.le_trans hb h2, h3⟩
theorem Own.append {w : World} {base : Nat} {t e : TypeId} {z : Value} {size bytes : Nat} {p : Option Addr} {n c r m mc : Nat} {xs news : List Value} (h : Own w base e size p n c xs)
    (hT : sliceT P t e z size bytes) (hb : base <= w.heap.size) (hr : Blk w r e news) (hl : news.length = m * size) (h1 : ∀ u ∈ news, u.oneCell' = true)
    (hbytes : (n + m) * bytes <= 140737488355328) (hby : 1 <= bytes) :
    ∃ p' c' w', Appends P [t, t] [.slice p n c, .slice (some ⟨r, 0, none⟩) m mc] (.slice p' (n + m) c') w w' /\ Own w' base e size p' (n + m) c' (xs ++ news) /\
      (∀ w0, Ext w0 w -> w0.heap.size <= base -> Ext w0 w') /\ (∀ b e' ys, Blk w b e' ys -> p.map (·.block) ≠ some b -> Blk w' b e' ys) /\
      (∀ b o ys, Seg w b o ys -> p.map (·.block) ≠ some b -> Seg w' b o ys) := by
  obtain ⟨hu, hi, hz, hs⟩ := hT
  cases hinf : P.info? e with
  | none => rw [hinf] at hi; cases hi
  | some i =>
    rw [hinf] at hi
    simp only [Option.map_some, Option.some.injEq, Prod.mk.injEq] at hi
    have hnm : n + m <= maxLen := by
      have : n + m <= (n + m) * bytes := Nat.le_mul_of_pos_right _ hby
      simp only [maxLen]; omega
    obtain ⟨v', w', hrun, hown, hgr, _⟩ := run_append_own (P := P) w base t 0 e i z size bytes hu hinf hi.1 hi.2.1 hi.2.2 hz hs (.slice p n c) n xs h ⟨r, 0, none⟩ m mc news hl
      (fun j u hj => by rw [addr_add, Nat.zero_add, hr.cell, hj]) h1 hnm hbytes hb
    have hlt := h.lt
    have hv : ∃ p' c', v' = .slice p' (n + m) c' := by
      rcases hown.2 with ⟨e1, e2⟩ | ⟨g, cap, cur, e1, _⟩
      · exact ⟨none, 0, by rw [e1, e2]⟩
      · exact ⟨_, _, e1⟩
    obtain ⟨p', c', rfl⟩ := hv
    have hob : (Value.slice p n c).ownBlock = p.map (·.block) := by cases p <;> rfl
    refine ⟨p', c', w', hrun, hown, ?_, ?_, ?_⟩
    · intro w0 hx hb0
      refine hx.chg (S := (p.map (·.block)).toList) ⟨hgr.os, hgr.tape, hgr.output, hgr.size, fun k hk hn => hgr.block k hk ?_⟩ ?_
      · rw [hob]; intro e; rw [<- e] at hn; simp at hn
      · intro x hx'
        have := (hlt x (by rw [hob]; cases p <;> simp_all)).1
        omega
    · intro b e' ys hy hne
      exact (hgr.block b hy.lt (by rw [hob]; exact fun e => hne e.symm)).trans hy
    · intro b o ys hy hne j v hj
      have h3 := hy j v hj
      rw [<- h3]
      exact World.cell?_of_block (hgr.block b (World.block_lt_of_cell? w _ h3) (by rw [hob]; exact fun e => hne e.symm))
end
def IntsR (w : World) (p : Option Addr) (n c : Nat) (zs : List Int) : Prop :=
 zs.length = n /\ n <= c /\ c <= 9223372036854775807 /\ (0 < n -> ∃ b off, p = some ⟨b, off, none⟩ /\ Seg w b off (zs.map (Value.int .i64)))
theorem IntsR.ext {w w' : World} {p : Option Addr} {n c : Nat} {zs : List Int} (h : IntsR w p n c zs) (he : Ext w w') : IntsR w' p n c zs :=
  ⟨h.1, h.2.1, h.2.2.1, fun hn => let ⟨b, off, hp, hs⟩ := h.2.2.2 hn; ⟨b, off, hp, hs.ext he⟩⟩
theorem IntsR.chg {S : List Nat} {w w' : World} {p : Option Addr} {n c : Nat} {zs : List Int} (h : IntsR w p n c zs) (he : Chg S w w') (hS : ∀ b, p.map (·.block) = some b -> b ∉ S) : IntsR w' p n c zs :=
  ⟨h.1, h.2.1, h.2.2.1, fun hn => let ⟨b, off, hp, hs⟩ := h.2.2.2 hn; ⟨b, off, hp, hs.chg he (hS b (by rw [hp]; rfl))⟩⟩
theorem IntsR.nil (w : World) (p : Option Addr) {c : Nat} (hc : c <= 9223372036854775807) : IntsR w p 0 c [] := ⟨rfl, Nat.zero_le _, hc, fun h => absurd h (by omega)⟩
theorem Own.ints {w : World} {base : Nat} {e : TypeId} {p : Option Addr} {n c : Nat} {zs : List Int} (h : Own w base e 1 p n c (zs.map (Value.int .i64))) : IntsR w p n c zs :=
  ⟨by simpa using h.len, h.le, h.capLe, fun hn => let ⟨b, hp, _, hs⟩ := h.seg hn; ⟨b, 0, hp, hs⟩⟩
theorem IntsR.at {P : Program} {w : World} {p : Option Addr} {n c k : Nat} {zs : List Int} (h : IntsR w p n c zs) {t : TypeId} (ht : cellT P t = true) (hk : k < n) :
    ∃ a, p = some a /\ Loads P t (a.add (k * 1)) (.int .i64 (zs[k]'(by rw [h.1]; exact hk))) w := by
  obtain ⟨b, off, hp, hs⟩ := h.2.2.2 (by omega)
  refine ⟨_, hp, ?_⟩
  rw [Nat.mul_one]
  exact hs.load ht (by simp [List.getElem?_eq_getElem (by rw [h.1]; exact hk : k < zs.length)])
theorem wrap64 {e : Int} (h1 : -9223372036854775808 <= e) (h2 : e <= 9223372036854775807) : IntKind.wrap .i64 e = e := by
  simp only [IntKind.wrap, IntKind.bits, IntKind.signed]
  by_cases h0 : 0 <= e
  · have : e % (2 ^ 64 : Int) = e := Int.emod_eq_of_lt h0 (by omega)
    simp [this]; omega
  · have : e % (2 ^ 64 : Int) = e + 2 ^ 64 := by omega
    simp [this]; omega
theorem exW {e : Int} {Q : Int -> Prop} (h : -9223372036854775808 <= e /\ e <= 9223372036854775807) (hq : Q e) : ∃ z, z = IntKind.wrap .i64 e /\ Q z := ⟨e, (wrap64 h.1 h.2).symm, hq⟩
theorem ifD {p : Prop} [Decidable p] {A B : Prop} (ha : p -> A) (hb : ¬ p -> B) : (decide p = true -> A) /\ (decide p = false -> B) :=
  ⟨fun h => ha (of_decide_eq_true h), fun h => hb (of_decide_eq_false h)⟩
theorem ifN {b : Bool} {A B : Prop} (ha : b = false -> A) (hb : b = true -> B) : ((!b) = true -> A) /\ ((!b) = false -> B) := ⟨fun h => ha (by simpa using h), fun h => hb (by simpa using h)⟩
theorem ifT {A B : Prop} (ha : A) : (true = true -> A) /\ (true = false -> B) := ⟨fun _ => ha, fun h => nomatch h⟩
theorem ifF {A B : Prop} (hb : B) : (false = true -> A) /\ (false = false -> B) := ⟨fun h => (nomatch h), fun _ => hb⟩
theorem zeroRow_int (k : IntKind) (z : Int) (n : Nat) : zeroRow (.int k z) n = List.replicate n (.int k z) := by
  unfold zeroRow
  apply List.ext_getElem
  · simp
  · intro i h1 h2
    simp [Value.cells, Nat.mod_one]
end Go.Proofs.YtbgokfhcgcoipaaGreatDoor.Sx
namespace Go.Proofs.YtbgokfhcgcoipaaGreatDoor
abbrev n_laws_FnPlan : Nat := 4
abbrev n_spec_MakeAmount : Nat := 14
abbrev n_spec_MakeRate : Nat := 15
abbrev n_impl_MoneyOf : Nat := 16
abbrev n_spec_MakeNum : Nat := 17
abbrev n_spec_MakeMode : Nat := 18
abbrev n_impl_PlanSums : Nat := 20
abbrev n_impl_NextRow : Nat := 21
abbrev n_impl_RowText : Nat := 22
abbrev n_impl_MoneyAdd : Nat := 23
abbrev n_impl_MoneySame : Nat := 24
abbrev n_impl_IntSign : Nat := 25
abbrev n_impl_PlanDone : Nat := 26
abbrev n_impl_RatAdd : Nat := 30
abbrev n_impl_RatInt : Nat := 31
abbrev n_impl_IntOf : Nat := 32
abbrev n_impl_DecRat : Nat := 33
abbrev n_impl_RatMul : Nat := 34
abbrev n_impl_MoneyRat : Nat := 35
abbrev n_impl_TaxOn : Nat := 36
abbrev n_impl_DecCmp : Nat := 41
abbrev n_impl_RatSub : Nat := 45
abbrev n_spec_l01New : Nat := 81
abbrev n_spec_IntOf : Nat := 82
abbrev n_spec_l01Below : Nat := 83
abbrev n_spec_l13Rate : Nat := 84
abbrev n_impl_moneyOf : Nat := 85
abbrev n_impl_alike : Nat := 86
abbrev n_impl_moneyCopy : Nat := 88
abbrev n_impl_MoneySum : Nat := 89
abbrev n_impl_intCmp : Nat := 90
abbrev n_impl_MoneySub : Nat := 91
abbrev n_impl_Join : Nat := 92
abbrev n_impl_MoneyText : Nat := 93
abbrev n_impl_intAdd : Nat := 94
abbrev n_impl_intSame : Nat := 95
abbrev n_impl_IntOk : Nat := 96
abbrev n_impl_intSign : Nat := 97
abbrev n_impl_isZero : Nat := 98
abbrev n_impl_MoneyOk : Nat := 102
abbrev n_impl_TaxRateOk : Nat := 103
abbrev n_impl_RatMoney : Nat := 105
abbrev n_impl_ratsOk : Nat := 106
abbrev n_impl_Rat_num : Nat := 107
abbrev n_impl_reduce : Nat := 108
abbrev n_impl_natMul : Nat := 109
abbrev n_impl_RatMake : Nat := 110
abbrev n_impl_natOf : Nat := 111
abbrev n_impl_DecOk : Nat := 112
abbrev n_impl_natTen : Nat := 113
abbrev n_impl_intMul : Nat := 114
abbrev n_impl_intCopy : Nat := 115
abbrev n_impl_DecText : Nat := 119
abbrev n_impl_natCmp : Nat := 127
abbrev n_impl_NatOf : Nat := 128
abbrev n_impl_natSub : Nat := 129
abbrev n_impl_ratNeg : Nat := 130
abbrev n_impl_IntText : Nat := 131
abbrev n_impl_RatOk : Nat := 132
abbrev n_impl_intsOk : Nat := 142
abbrev n_impl_intNeg : Nat := 148
abbrev n_spec_l04Make : Nat := 164
abbrev n_spec_NatOf : Nat := 165
abbrev n_spec_l01Byte : Nat := 166
abbrev n_spec_l01Pick : Nat := 167
abbrev n_impl_CurPlaces : Nat := 169
abbrev n_impl_signed : Nat := 170
abbrev n_impl_natAdd : Nat := 171
abbrev n_impl_sameInts : Nat := 172
abbrev n_impl_NatOk : Nat := 173
abbrev n_impl_CurKnown : Nat := 177
abbrev n_impl_RatRest : Nat := 178
abbrev n_impl_natGcd : Nat := 179
abbrev n_impl_natDiv : Nat := 180
abbrev n_impl_trim : Nat := 181
abbrev n_impl_isScale : Nat := 182
abbrev n_impl_natCopy : Nat := 183
abbrev n_impl_natSmall : Nat := 185
abbrev n_impl_Pad : Nat := 187
abbrev n_impl_natText : Nat := 188
abbrev n_impl_scaled_1 : Nat := 195
abbrev n_spec_l02Cap : Nat := 225
abbrev n_impl_currencyOf : Nat := 229
abbrev n_spec_l02Trim : Nat := 230
abbrev n_impl_RatRound : Nat := 231
abbrev n_impl_divStep : Nat := 232
abbrev n_impl_isMode : Nat := 279
abbrev n_impl_roundQuotient : Nat := 280
abbrev n_impl_subTimes : Nat := 281
abbrev n_impl_addBack : Nat := 282
abbrev n_impl_roundModes : Nat := 316
abbrev n_impl_NatEven : Nat := 317
abbrev n_impl_roundModes_1 : Nat := 339
abbrev n_impl_roundModes_2 : Nat := 340
abbrev n_impl_roundModes_3 : Nat := 341
abbrev n_impl_roundModes_4 : Nat := 342
abbrev n_impl_roundModes_5 : Nat := 343
abbrev n_impl_roundModes_6 : Nat := 344
abbrev n_impl_roundModes_7 : Nat := 345
abbrev T_int : Nat := 3
abbrev T_uint8 : Nat := 5
abbrev T_string : Nat := 9
abbrev T_s_int : Nat := 29
abbrev T_impl_Signed : Nat := 31
abbrev T_impl_Money : Nat := 33
abbrev T_impl_Dec : Nat := 36
abbrev T_s_impl_Row : Nat := 42
abbrev T_impl_Row : Nat := 48
abbrev T_impl_Rat : Nat := 60
abbrev T_s_impl_Money : Nat := 114
abbrev T_spec_l01Cur : Nat := 126
abbrev T_impl_period : Nat := 133
abbrev T_impl_currency : Nat := 252
abbrev T_20_impl_currency : Nat := 283
abbrev T_impl_roundMode : Nat := 315
abbrev T_7_impl_roundMode : Nat := 316
end Go.Proofs.YtbgokfhcgcoipaaGreatDoor
namespace Go.Proofs.YtbgokfhcgcoipaaGreatDoor.Sx
open Go Go.RowKit
inductive D0 where
  | int (n : Int) | bool (b : Bool) | str (s : ByteArray) | ints (l : List Int)
  deriving DecidableEq
inductive C0 where
  | int | bool | str | ints
  deriving DecidableEq
def D0.code : D0 -> C0
  | .int _ => .int
  | .bool _ => .bool
  | .str _ => .str
  | .ints _ => .ints
def Rep0 (w : World) (v : Value) : D0 -> Prop
  | .int n => v = .int .i64 n
  | .bool b => v = .bool b
  | .str s => v = .string s
  | .ints zs => ∃ p n c, v = .slice p n c /\ IntsR w p n c zs
def Reps (w : World) : List Value -> List D0 -> Prop
  | [], [] => True
  | v :: vs, d :: ds => Rep0 w v d /\ Reps w vs ds
  | _, _ => False
theorem Rep0.ext {w w' : World} {v : Value} {d : D0} (h : Rep0 w v d) (he : Ext w w') : Rep0 w' v d := by
  cases d <;> simp only [Rep0] at h ⊢ <;> try exact h
  obtain ⟨p, n, c, hv, hi⟩ := h
  exact ⟨p, n, c, hv, hi.ext he⟩
theorem Reps.ext {w w' : World} : ∀ {vs : List Value} {ds : List D0}, Reps w vs ds -> Ext w w' -> Reps w' vs ds
  | [], [], _, _ => trivial
  | [], _ :: _, h, _ => h.elim
  | _ :: _, [], h, _ => h.elim
  | _ :: _, _ :: _, h, he => ⟨h.1.ext he, Reps.ext h.2 he⟩
theorem Reps.len {w : World} : ∀ {vs : List Value} {ds : List D0}, Reps w vs ds -> vs.length = ds.length
  | [], [], _ => rfl
  | [], _ :: _, h => h.elim
  | _ :: _, [], h => h.elim
  | _ :: _, _ :: _, h => by simp [Reps.len h.2]
theorem Reps.append {w : World} : ∀ {vs us : List Value} {ds es : List D0}, Reps w vs ds -> Reps w us es -> Reps w (vs ++ us) (ds ++ es)
  | [], _, [], _, _, k => k
  | [], _, _ :: _, _, h, _ => h.elim
  | _ :: _, _, [], _, h, _ => h.elim
  | _ :: _, _, _ :: _, _, h, k => ⟨h.1, Reps.append h.2 k⟩
theorem Reps.one {w : World} {vs : List Value} {ds : List D0} (h : Reps w vs ds) (h1 : ∀ v ∈ vs, v.oneCell' = true -> True) : True := trivial
theorem Rep0.cell1 {w : World} {v : Value} {d : D0} (h : Rep0 w v d) : v.oneCell' = true := by
  cases d <;> simp only [Rep0] at h
  case ints l => obtain ⟨p, n, c, hv, _⟩ := h; rw [hv]; rfl
  all_goals (rw [h]; rfl)
theorem Reps.cells1 {w : World} : ∀ {vs : List Value} {ds : List D0}, Reps w vs ds -> ∀ v ∈ vs, v.oneCell' = true
  | [], [], _, v, hv => by simp at hv
  | [], _ :: _, h, _, _ => h.elim
  | _ :: _, [], h, _, _ => h.elim
  | x :: xs, d :: ds, h, v, hv => by
    rcases List.mem_cons.1 hv with e | e
    · rw [e]; exact h.1.cell1
    · exact Reps.cells1 h.2 v e
theorem Reps.int {w : World} {vs : List Value} {ds : List D0} {cs : List C0} (h : Reps w vs ds) (hc : ds.map D0.code = .int :: cs) : ∃ n us es, vs = .int .i64 n :: us /\ ds = .int n :: es /\ Reps w us es /\ es.map D0.code = cs := by
  cases ds with
  | nil => simp at hc
  | cons d es =>
    cases vs with
    | nil => exact h.elim
    | cons v us =>
      simp only [List.map_cons, List.cons.injEq] at hc
      cases d <;> simp [D0.code] at hc
      rename_i n
      exact ⟨n, us, es, by rw [show v = _ from h.1], rfl, h.2, hc⟩
theorem Reps.bool {w : World} {vs : List Value} {ds : List D0} {cs : List C0} (h : Reps w vs ds) (hc : ds.map D0.code = .bool :: cs) : ∃ b us es, vs = .bool b :: us /\ ds = .bool b :: es /\ Reps w us es /\ es.map D0.code = cs := by
  cases ds with
  | nil => simp at hc
  | cons d es =>
    cases vs with
    | nil => exact h.elim
    | cons v us =>
      simp only [List.map_cons, List.cons.injEq] at hc
      cases d <;> simp [D0.code] at hc
      rename_i n
      exact ⟨n, us, es, by rw [show v = _ from h.1], rfl, h.2, hc⟩
theorem Reps.str {w : World} {vs : List Value} {ds : List D0} {cs : List C0} (h : Reps w vs ds) (hc : ds.map D0.code = .str :: cs) : ∃ s us es, vs = .string s :: us /\ ds = .str s :: es /\ Reps w us es /\ es.map D0.code = cs := by
  cases ds with
  | nil => simp at hc
  | cons d es =>
    cases vs with
    | nil => exact h.elim
    | cons v us =>
      simp only [List.map_cons, List.cons.injEq] at hc
      cases d <;> simp [D0.code] at hc
      rename_i n
      exact ⟨n, us, es, by rw [show v = _ from h.1], rfl, h.2, hc⟩
theorem Reps.ints {w : World} {vs : List Value} {ds : List D0} {cs : List C0} (h : Reps w vs ds) (hc : ds.map D0.code = .ints :: cs) :
    ∃ p n c zs us es, vs = .slice p n c :: us /\ ds = .ints zs :: es /\ IntsR w p n c zs /\ Reps w us es /\ es.map D0.code = cs := by
  cases ds with
  | nil => simp at hc
  | cons d es =>
    cases vs with
    | nil => exact h.elim
    | cons v us =>
      simp only [List.map_cons, List.cons.injEq] at hc
      cases d <;> simp [D0.code] at hc
      rename_i zs
      obtain ⟨p, n, c, hv, hi⟩ := h.1
      exact ⟨p, n, c, zs, us, es, by rw [hv], rfl, hi, h.2, hc⟩
theorem Reps.done {w : World} {vs : List Value} {ds : List D0} (h : Reps w vs ds) (hc : ds.map D0.code = []) : vs = [] /\ ds = [] := by
  have : ds = [] := by simpa using hc
  subst this
  cases vs with
  | nil => exact ⟨rfl, rfl⟩
  | cons _ _ => exact h.elim
def RowsR (w : World) (k : Nat) (p : Option Addr) (n c : Nat) (l : List (List D0)) : Prop :=
 l.length = n /\ n <= c /\ c <= 9223372036854775807 /\ (0 < n -> ∃ b off, p = some ⟨b, off, none⟩ /\ ∀ i x, l[i]? = some x -> ∃ cs, cs.length = k /\ Reps w cs x /\ Seg w b (off + i * k) cs)
theorem RowsR.ext {w w' : World} {k : Nat} {p : Option Addr} {n c : Nat} {l : List (List D0)} (h : RowsR w k p n c l) (he : Ext w w') : RowsR w' k p n c l :=
  ⟨h.1, h.2.1, h.2.2.1, fun hn => let ⟨b, off, hp, hs⟩ := h.2.2.2 hn; ⟨b, off, hp, fun i x hx => let ⟨cs, h1, h2, h3⟩ := hs i x hx; ⟨cs, h1, h2.ext he, h3.ext he⟩⟩⟩
theorem RowsR.nil (w : World) (k : Nat) (p : Option Addr) {c : Nat} (hc : c <= 9223372036854775807) : RowsR w k p 0 c [] := ⟨rfl, Nat.zero_le _, hc, fun h => absurd h (by omega)⟩
theorem RowsR.at {P : Program} {w : World} {k : Nat} {p : Option Addr} {n c i : Nat} {l : List (List D0)} (h : RowsR w k p n c l) {t : TypeId} (ht : aggT P t k = true) (hi : i < n) :
    ∃ a cs, p = some a /\ cs.length = k /\ Reps w cs (l[i]'(by rw [h.1]; exact hi)) /\ Loads P t (a.add (i * k)) (.agg ⟨cs⟩) w := by
  obtain ⟨b, off, hp, hs⟩ := h.2.2.2 (by omega)
  obtain ⟨cs, h1, h2, h3⟩ := hs i _ (List.getElem?_eq_getElem (by rw [h.1]; exact hi))
  refine ⟨_, cs, hp, h1, h2, ?_⟩
  rw [addr_add]
  exact loadsA (by rw [h1]; exact ht) h3
def D0.bulk : D0 -> Nat
  | .str s => s.size
  | .ints l => l.length
  | _ => 0
def bulks (ds : List D0) : Nat := (ds.map D0.bulk).sum
def D0.ok : D0 -> Prop
  | .int n => -9223372036854775808 <= n /\ n <= 9223372036854775807
  | .str s => s.size <= 9223372036854775807
  | .ints l => l.length <= 9223372036854775807
  | .bool _ => True
end Go.Proofs.YtbgokfhcgcoipaaGreatDoor.Sx
namespace Go.Proofs.YtbgokfhcgcoipaaGreatDoor.Sx
open Go Go.RowKit
section
variable {P : Program}
theorem Blk.load0 {w : World} {t : TypeId} {b k : Nat} {e : TypeId} {cs : List Value} {v : Value} (h : Blk w b e cs) (ht : cellT P t = true) (hx : cs[k]? = some v) : Loads P t ⟨b, k, none⟩ v w :=
  loads1 ht (by rw [h.cell]; exact hx)
theorem Blk.loadA0 {w : World} {t : TypeId} {b : Nat} {e : TypeId} {cs : List Value} (h : Blk w b e cs) (ht : aggT P t cs.length = true) : Loads P t ⟨b, 0, none⟩ (.agg ⟨cs⟩) w :=
  loadsA ht h.seg
theorem Blk.storeA0 {w : World} {t : TypeId} {b : Nat} {e : TypeId} {cs xs : List Value} (h : Blk w b e cs) (ht : aggT P t xs.length = true) (hk : xs.length = cs.length) (hv : ∀ v ∈ xs, v.oneCell' = true) :
    ∃ w', Stores P t ⟨b, 0, none⟩ (.agg ⟨xs⟩) w w' /\ Blk w' b e xs /\ Chg [b] w w' /\ w'.heap.size = w.heap.size := by
  obtain ⟨w', h1, h2, h3, h4⟩ := h.storeA (P := P) (k := 0) ht (by omega) hv
  rw [addr_add, Nat.zero_add] at h1
  refine ⟨w', h1, ?_, h3, h4⟩
  rw [List.take_zero, List.nil_append, Nat.zero_add, hk, List.drop_length, List.append_nil] at h2
  exact h2
end
def Own0 (w : World) (B : Nat) (v : Value) : D0 -> List Nat -> Prop
  | .int n, f => v = .int .i64 n /\ f = []
  | .bool b, f => v = .bool b /\ f = []
  | .str s, f => v = .string s /\ f = []
  | .ints zs, f => ∃ p n c, v = .slice p n c /\ Own w B T_int 1 p n c (zs.map (Value.int .i64)) /\ f = (p.map (·.block)).toList
def Owns (w : World) (B : Nat) : List Value -> List D0 -> List Nat -> Prop
  | [], [], f => f = []
  | v :: vs, d :: ds, f => ∃ f1 f2, f = f1 ++ f2 /\ Own0 w B v d f1 /\ Owns w B vs ds f2
  | _, _, _ => False
theorem Own0.rep {w : World} {B : Nat} {v : Value} {d : D0} {f : List Nat} (h : Own0 w B v d f) : Rep0 w v d := by
  cases d <;> simp only [Own0] at h <;> simp only [Rep0]
  case ints zs => obtain ⟨p, n, c, hv, ho, _⟩ := h; exact ⟨p, n, c, hv, ho.ints⟩
  all_goals exact h.1
theorem Owns.reps {w : World} {B : Nat} : ∀ {vs : List Value} {ds : List D0} {f : List Nat}, Owns w B vs ds f -> Reps w vs ds
  | [], [], _, _ => trivial
  | [], _ :: _, _, h => h.elim
  | _ :: _, [], _, h => h.elim
  | _ :: _, _ :: _, _, h => by
    obtain ⟨f1, f2, _, h1, h2⟩ := h
    exact ⟨h1.rep, Owns.reps h2⟩
theorem Own0.lt {w : World} {B : Nat} {v : Value} {d : D0} {f : List Nat} (h : Own0 w B v d f) : ∀ k ∈ f, B <= k /\ k < w.heap.size := by
  cases d <;> simp only [Own0] at h
  case ints zs =>
    obtain ⟨p, n, c, hv, ho, hf⟩ := h
    intro k hk
    rw [hf] at hk
    exact World.ownsRow.lt ho k (by cases p <;> simp_all [Value.ownBlock])
  all_goals (intro k hk; rw [h.2] at hk; simp at hk)
theorem Owns.lt {w : World} {B : Nat} : ∀ {vs : List Value} {ds : List D0} {f : List Nat}, Owns w B vs ds f -> ∀ k ∈ f, B <= k /\ k < w.heap.size
  | [], [], _, h, k, hk => by rw [h] at hk; simp at hk
  | [], _ :: _, _, h, _, _ => h.elim
  | _ :: _, [], _, h, _, _ => h.elim
  | _ :: _, _ :: _, _, h, k, hk => by
    obtain ⟨f1, f2, rfl, h1, h2⟩ := h
    rcases List.mem_append.1 hk with hk | hk
    · exact h1.lt k hk
    · exact Owns.lt h2 k hk
theorem Own0.ext {w w' : World} {B : Nat} {v : Value} {d : D0} {f : List Nat} (h : Own0 w B v d f) (he : Ext w w') : Own0 w' B v d f := by
  cases d <;> simp only [Own0] at h ⊢ <;> try exact h
  obtain ⟨p, n, c, hv, ho, hf⟩ := h
  exact ⟨p, n, c, hv, ho.ext he, hf⟩
theorem Owns.ext {w w' : World} {B : Nat} : ∀ {vs : List Value} {ds : List D0} {f : List Nat}, Owns w B vs ds f -> Ext w w' -> Owns w' B vs ds f
  | [], [], _, h, _ => h
  | [], _ :: _, _, h, _ => h.elim
  | _ :: _, [], _, h, _ => h.elim
  | _ :: _, _ :: _, _, h, he => by
    obtain ⟨f1, f2, rfl, h1, h2⟩ := h
    exact ⟨f1, f2, rfl, h1.ext he, Owns.ext h2 he⟩
theorem Own.chg {S : List Nat} {w w' : World} {B : Nat} {e : TypeId} {size : Nat} {p : Option Addr} {n c : Nat} {xs : List Value} (h : Own w B e size p n c xs) (he : Chg S w w') (hS : ∀ k, p.map (·.block) = some k -> k ∉ S) : Own w' B e size p n c xs := by
  refine ⟨h.1, ?_⟩
  rcases h.2 with h1 | ⟨g, cap, cur, h1, h2, h3, h4⟩
  · exact .inl h1
  · refine .inr ⟨g, cap, cur, h1, h2, ?_, h4⟩
    simp only [Value.slice.injEq] at h1
    rw [he.block g (Array.getElem?_eq_some_iff.1 h3).1 (hS g (by rw [h1.1]; rfl))]
    exact h3
theorem Own0.chg {S : List Nat} {w w' : World} {B : Nat} {v : Value} {d : D0} {f : List Nat} (h : Own0 w B v d f) (he : Chg S w w') (hS : ∀ k ∈ f, k ∉ S) : Own0 w' B v d f := by
  cases d <;> simp only [Own0] at h ⊢ <;> try exact h
  obtain ⟨p, n, c, hv, ho, hf⟩ := h
  exact ⟨p, n, c, hv, ho.chg he (fun k hk => hS k (by rw [hf, hk]; simp)), hf⟩
theorem Owns.chg {S : List Nat} {w w' : World} {B : Nat} : ∀ {vs : List Value} {ds : List D0} {f : List Nat}, Owns w B vs ds f -> Chg S w w' -> (∀ k ∈ f, k ∉ S) -> Owns w' B vs ds f
  | [], [], _, h, _, _ => h
  | [], _ :: _, _, h, _, _ => h.elim
  | _ :: _, [], _, h, _, _ => h.elim
  | _ :: _, _ :: _, _, h, he, hS => by
    obtain ⟨f1, f2, rfl, h1, h2⟩ := h
    exact ⟨f1, f2, rfl, h1.chg he (fun k hk => hS k (by simp [hk])), Owns.chg h2 he (fun k hk => hS k (by simp [hk]))⟩
theorem Owns.chg1 {r : Nat} {w w' : World} {B : Nat} {vs : List Value} {ds : List D0} {f : List Nat} (h : Owns w B vs ds f) (he : Chg [r] w w') (hr : r < B) : Owns w' B vs ds f :=
  h.chg he fun k hk hm => by
    have := (h.lt k hk).1
    simp at hm; omega
theorem Own0.mono {w : World} {B B' : Nat} {v : Value} {d : D0} {f : List Nat} (h : Own0 w B v d f) (hb : B' <= B) : Own0 w B' v d f := by
  cases d <;> simp only [Own0] at h ⊢ <;> try exact h
  obtain ⟨p, n, c, hv, ho, hf⟩ := h
  exact ⟨p, n, c, hv, ho.mono hb, hf⟩
theorem Owns.mono {w : World} {B B' : Nat} (hb : B' <= B) : ∀ {vs : List Value} {ds : List D0} {f : List Nat}, Owns w B vs ds f -> Owns w B' vs ds f
  | [], [], _, h => h
  | [], _ :: _, _, h => h.elim
  | _ :: _, [], _, h => h.elim
  | _ :: _, _ :: _, _, h => by
    obtain ⟨f1, f2, rfl, h1, h2⟩ := h
    exact ⟨f1, f2, rfl, h1.mono hb, Owns.mono hb h2⟩
theorem Owns.append {w : World} {B : Nat} : ∀ {vs us : List Value} {ds es : List D0} {f g : List Nat}, Owns w B vs ds f -> Owns w B us es g -> Owns w B (vs ++ us) (ds ++ es) (f ++ g)
  | [], _, [], _, f, g, h, k => by rw [show f = [] from h]; exact k
  | [], _, _ :: _, _, _, _, h, _ => h.elim
  | _ :: _, _, [], _, _, _, h, _ => h.elim
  | _ :: _, _, _ :: _, _, _, g, h, k => by
    obtain ⟨f1, f2, rfl, h1, h2⟩ := h
    exact ⟨f1, f2 ++ g, by simp, h1, Owns.append h2 k⟩
theorem Owns.nil (w : World) (B : Nat) : Owns w B [] [] [] := rfl
theorem Owns.bool (w : World) (B : Nat) (b : Bool) : Owns w B [.bool b] [.bool b] [] := ⟨[], [], rfl, ⟨rfl, rfl⟩, rfl⟩
theorem Owns.int (w : World) (B : Nat) (n : Int) : Owns w B [.int .i64 n] [.int n] [] := ⟨[], [], rfl, ⟨rfl, rfl⟩, rfl⟩
theorem Owns.str (w : World) (B : Nat) (s : ByteArray) : Owns w B [.string s] [.str s] [] := ⟨[], [], rfl, ⟨rfl, rfl⟩, rfl⟩
theorem Owns.ints {w : World} {B : Nat} {p : Option Addr} {n c : Nat} {zs : List Int} (h : Own w B T_int 1 p n c (zs.map (Value.int .i64))) : Owns w B [.slice p n c] [.ints zs] (p.map (·.block)).toList :=
  ⟨_, [], by simp, ⟨p, n, c, rfl, h, rfl⟩, rfl⟩
theorem nodup_append {f g : List Nat} {m : Nat} (hf : f.Nodup) (hg : g.Nodup) (h1 : ∀ k ∈ f, k < m) (h2 : ∀ k ∈ g, m <= k) : (f ++ g).Nodup := by
  rw [List.nodup_append]
  exact ⟨hf, hg, fun a ha b hb e => by have := h1 a ha; have := h2 b hb; omega⟩
theorem Blk.loadAt {P : Program} {w : World} {t : TypeId} {b : Nat} {e : TypeId} {cs : List Value} {v : Value} {a : Addr} (k : Nat) (h : Blk w b e cs) (ha : a = ⟨b, k, none⟩) (ht : cellT P t = true) (hx : cs[k]? = some v) : Loads P t a v w := by
  subst ha; exact h.load0 ht hx
theorem Blk.loadAAt {P : Program} {w : World} {t : TypeId} {b : Nat} {e : TypeId} {cs : List Value} {a : Addr} (k : Nat) (xs : List Value) (h : Blk w b e cs) (ha : a = ⟨b, k, none⟩) (ht : aggT P t xs.length = true) (hx : (cs.drop k).take xs.length = xs) : Loads P t a (.agg ⟨xs⟩) w := by
  subst ha
  have := h.loadA (P := P) (k := k) ht hx
  rwa [addr_add, Nat.zero_add] at this
theorem Seg.loadAt {P : Program} {w : World} {t : TypeId} {b o : Nat} {cs : List Value} {v : Value} {a : Addr} (k : Nat) (h : Seg w b o cs) (ha : a = ⟨b, o + k, none⟩) (ht : cellT P t = true) (hx : cs[k]? = some v) : Loads P t a v w := by
  subst ha; exact loads1 ht (h _ _ hx)
theorem Seg.loadAAt {P : Program} {w : World} {t : TypeId} {b o : Nat} {cs : List Value} {a : Addr} (k : Nat) (xs : List Value) (h : Seg w b o cs) (ha : a = ⟨b, o + k, none⟩) (ht : aggT P t xs.length = true) (hx : (cs.drop k).take xs.length = xs) : Loads P t a (.agg ⟨xs⟩) w := by
  subst ha
  have := h.loadA (P := P) (k := k) ht hx
  rwa [addr_add] at this
theorem New.fill {P : Program} {w w1 : World} {zs : List Value} {e : TypeId} {r : Nat} (hn : New w (.cells ⟨zs⟩ e (0, 0)) r w1) {t : TypeId} {xs : List Value} (hv : ∀ v ∈ xs, v.oneCell' = true) (ht : aggT P t xs.length = true) (hl : xs.length = zs.length) :
    ∃ w2, Stores P t ⟨r, 0, none⟩ (.agg ⟨xs⟩) w1 w2 /\ Blk w2 r e xs /\ Ext w w2 := by
  obtain ⟨w2, st, hb, ch, sz⟩ := hn.blk.storeA0 (P := P) (t := t) ht hl hv
  exact ⟨w2, st, hb, hn.ext.chg ch (by have := hn.r_eq; simp; omega)⟩
def AllO (w : World) (B k : Nat) : List (List Value) -> List (List D0) -> List (List Nat) -> Prop
  | [], [], [] => True
  | cs :: css, x :: l, f :: fs => cs.length = k /\ Owns w B cs x f /\ AllO w B k css l fs
  | _, _, _ => False
theorem AllO.ext {w w' : World} {B k : Nat} : ∀ {css : List (List Value)} {l : List (List D0)} {fs : List (List Nat)}, AllO w B k css l fs -> Ext w w' -> AllO w' B k css l fs
  | [], [], [], _, _ => trivial
  | _ :: _, _ :: _, _ :: _, h, he => ⟨h.1, h.2.1.ext he, AllO.ext h.2.2 he⟩
  | [], [], _ :: _, h, _ => h.elim
  | [], _ :: _, _, h, _ => h.elim
  | _ :: _, [], _, h, _ => h.elim
  | _ :: _, _ :: _, [], h, _ => h.elim
theorem AllO.chg {S : List Nat} {w w' : World} {B k : Nat} : ∀ {css : List (List Value)} {l : List (List D0)} {fs : List (List Nat)}, AllO w B k css l fs -> Chg S w w' -> (∀ x ∈ fs.flatten, x ∉ S) -> AllO w' B k css l fs
  | [], [], [], _, _, _ => trivial
  | _ :: _, _ :: _, _ :: _, h, he, hS => ⟨h.1, h.2.1.chg he (fun x hx => hS x (by simp [hx])), AllO.chg h.2.2 he (fun x hx => hS x (by rw [List.flatten_cons]; exact List.mem_append_right _ hx))⟩
  | [], [], _ :: _, h, _, _ => h.elim
  | [], _ :: _, _, h, _, _ => h.elim
  | _ :: _, [], _, h, _, _ => h.elim
  | _ :: _, _ :: _, [], h, _, _ => h.elim
theorem AllO.mono {w : World} {B B' k : Nat} (hb : B' <= B) : ∀ {css : List (List Value)} {l : List (List D0)} {fs : List (List Nat)}, AllO w B k css l fs -> AllO w B' k css l fs
  | [], [], [], _ => trivial
  | _ :: _, _ :: _, _ :: _, h => ⟨h.1, h.2.1.mono hb, AllO.mono hb h.2.2⟩
  | [], [], _ :: _, h => h.elim
  | [], _ :: _, _, h => h.elim
  | _ :: _, [], _, h => h.elim
  | _ :: _, _ :: _, [], h => h.elim
theorem AllO.lt {w : World} {B k : Nat} : ∀ {css : List (List Value)} {l : List (List D0)} {fs : List (List Nat)}, AllO w B k css l fs -> ∀ x ∈ fs.flatten, B <= x /\ x < w.heap.size
  | [], [], [], _, x, hx => by simp at hx
  | _ :: _, _ :: _, _ :: _, h, x, hx => by
    rw [List.flatten_cons, List.mem_append] at hx
    rcases hx with hx | hx
    · exact h.2.1.lt x hx
    · exact AllO.lt h.2.2 x hx
  | [], [], _ :: _, h, _, _ => h.elim
  | [], _ :: _, _, h, _, _ => h.elim
  | _ :: _, [], _, h, _, _ => h.elim
  | _ :: _, _ :: _, [], h, _, _ => h.elim
theorem AllO.snoc {w : World} {B k : Nat} {cs : List Value} {x : List D0} {f : List Nat} (hk : cs.length = k) (ho : Owns w B cs x f) : ∀ {css : List (List Value)} {l : List (List D0)} {fs : List (List Nat)}, AllO w B k css l fs -> AllO w B k (css ++ [cs]) (l ++ [x]) (fs ++ [f])
  | [], [], [], _ => ⟨hk, ho, trivial⟩
  | _ :: _, _ :: _, _ :: _, h => ⟨h.1, h.2.1, AllO.snoc hk ho h.2.2⟩
  | [], [], _ :: _, h => h.elim
  | [], _ :: _, _, h => h.elim
  | _ :: _, [], _, h => h.elim
  | _ :: _, _ :: _, [], h => h.elim
theorem AllO.len {w : World} {B k : Nat} : ∀ {css : List (List Value)} {l : List (List D0)} {fs : List (List Nat)}, AllO w B k css l fs -> css.length = l.length /\ css.flatten.length = l.length * k
  | [], [], [], _ => ⟨rfl, by simp⟩
  | cs :: css, x :: l, _ :: _, h => by
    have := AllO.len h.2.2
    refine ⟨by simp [this.1], ?_⟩
    rw [List.flatten_cons, List.length_append, this.2, h.1, List.length_cons, Nat.succ_mul, Nat.add_comm]
  | [], [], _ :: _, h => h.elim
  | [], _ :: _, _, h => h.elim
  | _ :: _, [], _, h => h.elim
  | _ :: _, _ :: _, [], h => h.elim
theorem AllO.cells1 {w : World} {B k : Nat} : ∀ {css : List (List Value)} {l : List (List D0)} {fs : List (List Nat)}, AllO w B k css l fs -> ∀ v ∈ css.flatten, v.oneCell' = true
  | [], [], [], _, v, hv => by simp at hv
  | _ :: _, _ :: _, _ :: _, h, v, hv => by
    rw [List.flatten_cons, List.mem_append] at hv
    rcases hv with hv | hv
    · exact h.2.1.reps.cells1 v hv
    · exact AllO.cells1 h.2.2 v hv
  | [], [], _ :: _, h, _, _ => h.elim
  | [], _ :: _, _, h, _, _ => h.elim
  | _ :: _, [], _, h, _, _ => h.elim
  | _ :: _, _ :: _, [], h, _, _ => h.elim
theorem AllO.at {w : World} {B k : Nat} : ∀ {css : List (List Value)} {l : List (List D0)} {fs : List (List Nat)}, AllO w B k css l fs -> ∀ i x, l[i]? = some x -> ∃ cs, cs.length = k /\ Reps w cs x /\ (css.flatten.drop (i * k)).take k = cs
  | [], [], [], _, i, x, hx => by simp at hx
  | cs :: css, y :: l, _ :: _, h, i, x, hx => by
    cases i with
    | zero =>
      simp only [List.getElem?_cons_zero, Option.some.injEq] at hx
      subst hx
      refine ⟨cs, h.1, h.2.1.reps, ?_⟩
      rw [Nat.zero_mul, List.drop_zero, List.flatten_cons, <- h.1, List.take_left]
    | succ i =>
      simp only [List.getElem?_cons_succ] at hx
      obtain ⟨c, h1, h2, h3⟩ := AllO.at h.2.2 i x hx
      refine ⟨c, h1, h2, ?_⟩
      rw [List.flatten_cons, Nat.succ_mul, Nat.add_comm, <- List.drop_drop, <- h.1, List.drop_left, h.1]
      exact h3
  | [], [], _ :: _, h, _, _, _ => h.elim
  | [], _ :: _, _, h, _, _, _ => h.elim
  | _ :: _, [], _, h, _, _, _ => h.elim
  | _ :: _, _ :: _, [], h, _, _, _ => h.elim
def OwnRows (w : World) (B : Nat) (e : TypeId) (k : Nat) (p : Option Addr) (n c : Nat) (l : List (List D0)) (f : List Nat) : Prop :=
 l.length = n /\ ∃ css fs, AllO w B k css l fs /\ Own w B e k p n c css.flatten /\ f = (p.map (·.block)).toList ++ fs.flatten /\ f.Nodup
theorem OwnRows.rows {w : World} {B : Nat} {e : TypeId} {k : Nat} {p : Option Addr} {n c : Nat} {l : List (List D0)} {f : List Nat} (h : OwnRows w B e k p n c l f) : RowsR w k p n c l := by
  obtain ⟨hl, css, fs, ha, ho, _, _⟩ := h
  refine ⟨hl, ho.le, ho.capLe, fun hn => ?_⟩
  obtain ⟨b, hp, _, hs⟩ := ho.seg hn
  refine ⟨b, 0, hp, fun i x hx => ?_⟩
  obtain ⟨cs, h1, h2, h3⟩ := ha.at i x hx
  exact ⟨cs, h1, h2, by rw [<- h3]; exact (hs.drop (i * k)).take k⟩
theorem OwnRows.lt {w : World} {B : Nat} {e : TypeId} {k : Nat} {p : Option Addr} {n c : Nat} {l : List (List D0)} {f : List Nat} (h : OwnRows w B e k p n c l f) : ∀ x ∈ f, B <= x /\ x < w.heap.size := by
  obtain ⟨hl, css, fs, ha, ho, rfl, _⟩ := h
  intro x hx
  rcases List.mem_append.1 hx with hx | hx
  · exact World.ownsRow.lt ho x (by cases p <;> simp_all [Value.ownBlock])
  · exact ha.lt x hx
theorem OwnRows.ext {w w' : World} {B : Nat} {e : TypeId} {k : Nat} {p : Option Addr} {n c : Nat} {l : List (List D0)} {f : List Nat} (h : OwnRows w B e k p n c l f) (he : Ext w w') : OwnRows w' B e k p n c l f := by
  obtain ⟨hl, css, fs, ha, ho, hf, hn⟩ := h
  exact ⟨hl, css, fs, ha.ext he, ho.ext he, hf, hn⟩
theorem OwnRows.mono {w : World} {B B' : Nat} {e : TypeId} {k : Nat} {p : Option Addr} {n c : Nat} {l : List (List D0)} {f : List Nat} (h : OwnRows w B e k p n c l f) (hb : B' <= B) : OwnRows w B' e k p n c l f := by
  obtain ⟨hl, css, fs, ha, ho, hf, hn⟩ := h
  exact ⟨hl, css, fs, ha.mono hb, ho.mono hb, hf, hn⟩
theorem OwnRows.chg {S : List Nat} {w w' : World} {B : Nat} {e : TypeId} {k : Nat} {p : Option Addr} {n c : Nat} {l : List (List D0)} {f : List Nat} (h : OwnRows w B e k p n c l f) (he : Chg S w w') (hS : ∀ x ∈ f, x ∉ S) : OwnRows w' B e k p n c l f := by
  obtain ⟨hl, css, fs, ha, ho, rfl, hn⟩ := h
  exact ⟨hl, css, fs, ha.chg he (fun x hx => hS x (List.mem_append_right _ hx)), ho.chg he (fun x hx => hS x (List.mem_append_left _ (by rw [hx]; simp))), rfl, hn⟩
theorem dec_no {p : Prop} [Decidable p] (h : ¬ p) : Value.bool false = Value.bool (decide p) := by simp [h]
theorem dec_yes {p : Prop} [Decidable p] (h : p) : Value.bool true = Value.bool (decide p) := by simp [h]
end Go.Proofs.YtbgokfhcgcoipaaGreatDoor.Sx
namespace Go.Proofs.YtbgokfhcgcoipaaGreatDoor
open Go Go.Proofs.YtbgokfhcgcoipaaGreatDoor.Sx
theorem take_set {α : Type} (l : List α) (d v : α) (k : Nat) (hk : k < l.length) (n : Nat) (hn : 0 < n) (h : l[k]? = some v) :
    (l.take k ++ List.replicate n d).set k v = l.take (k + 1) ++ List.replicate (n - 1) d := by
  have hlen : (l.take k).length = k := by simp; omega
  rw [List.set_append_right _ _ (by omega), hlen, Nat.sub_self]
  obtain ⟨m, rfl⟩ : ∃ m, n = m + 1 := ⟨n - 1, by omega⟩
  rw [List.replicate_succ, List.set_cons_zero, List.take_add_one, h]
  simp
end Go.Proofs.YtbgokfhcgcoipaaGreatDoor
namespace Go.Proofs.YtbgokfhcgcoipaaGreatDoor
open Go Go.Proofs.YtbgokfhcgcoipaaGreatDoor.Sx
theorem open_Signed {w : World} {vs : List Value} {ds : List D0} (h : Reps w vs ds) (hc : ds.map D0.code = [.bool, .ints]) :
    ∃ (a0 : Bool) (a1p : Option Addr) (a1n a1c : Nat) (a1z : List Int), vs = [.bool a0, .slice a1p a1n a1c] /\ ds = [.bool a0, .ints a1z] /\ IntsR w a1p a1n a1c a1z := by
  obtain ⟨b0, us, es, hv, hd, h2, hc2⟩ := h.bool hc
  subst hv; subst hd
  clear h hc
  have h := h2; have hc := hc2; clear h2 hc2
  obtain ⟨b1p, b1n, b1c, b1z, us, es, hv, hd, b1h, h2, hc2⟩ := h.ints hc
  subst hv; subst hd
  clear h hc
  have h := h2; have hc := hc2; clear h2 hc2
  obtain ⟨hv, hd⟩ := h.done hc
  subst hv; subst hd; clear h hc
  exact ⟨_, _, _, _, _, rfl, rfl, b1h⟩
theorem open_Rat {w : World} {vs : List Value} {ds : List D0} (h : Reps w vs ds) (hc : ds.map D0.code = [.bool, .ints, .ints]) :
    ∃ (a0 : Bool) (a1p : Option Addr) (a1n a1c : Nat) (a1z : List Int) (a2p : Option Addr) (a2n a2c : Nat) (a2z : List Int), vs = [.bool a0, .slice a1p a1n a1c, .slice a2p a2n a2c] /\ ds = [.bool a0, .ints a1z, .ints a2z] /\ IntsR w a1p a1n a1c a1z /\ IntsR w a2p a2n a2c a2z := by
  obtain ⟨b0, us, es, hv, hd, h2, hc2⟩ := h.bool hc
  subst hv; subst hd
  clear h hc
  have h := h2; have hc := hc2; clear h2 hc2
  obtain ⟨b1p, b1n, b1c, b1z, us, es, hv, hd, b1h, h2, hc2⟩ := h.ints hc
  subst hv; subst hd
  clear h hc
  have h := h2; have hc := hc2; clear h2 hc2
  obtain ⟨b2p, b2n, b2c, b2z, us, es, hv, hd, b2h, h2, hc2⟩ := h.ints hc
  subst hv; subst hd
  clear h hc
  have h := h2; have hc := hc2; clear h2 hc2
  obtain ⟨hv, hd⟩ := h.done hc
  subst hv; subst hd; clear h hc
  exact ⟨_, _, _, _, _, _, _, _, _, rfl, rfl, b1h, b2h⟩
theorem open_Dec {w : World} {vs : List Value} {ds : List D0} (h : Reps w vs ds) (hc : ds.map D0.code = [.bool, .ints, .int]) :
    ∃ (a0 : Bool) (a1p : Option Addr) (a1n a1c : Nat) (a1z : List Int) (a2 : Int), vs = [.bool a0, .slice a1p a1n a1c, .int .i64 a2] /\ ds = [.bool a0, .ints a1z, .int a2] /\ IntsR w a1p a1n a1c a1z := by
  obtain ⟨b0, us, es, hv, hd, h2, hc2⟩ := h.bool hc
  subst hv; subst hd
  clear h hc
  have h := h2; have hc := hc2; clear h2 hc2
  obtain ⟨b1p, b1n, b1c, b1z, us, es, hv, hd, b1h, h2, hc2⟩ := h.ints hc
  subst hv; subst hd
  clear h hc
  have h := h2; have hc := hc2; clear h2 hc2
  obtain ⟨b2, us, es, hv, hd, h2, hc2⟩ := h.int hc
  subst hv; subst hd
  clear h hc
  have h := h2; have hc := hc2; clear h2 hc2
  obtain ⟨hv, hd⟩ := h.done hc
  subst hv; subst hd; clear h hc
  exact ⟨_, _, _, _, _, _, rfl, rfl, b1h⟩
theorem open_Money {w : World} {vs : List Value} {ds : List D0} (h : Reps w vs ds) (hc : ds.map D0.code = [.str, .bool, .ints]) :
    ∃ (a0 : ByteArray) (a1 : Bool) (a2p : Option Addr) (a2n a2c : Nat) (a2z : List Int), vs = [.string a0, .bool a1, .slice a2p a2n a2c] /\ ds = [.str a0, .bool a1, .ints a2z] /\ IntsR w a2p a2n a2c a2z := by
  obtain ⟨b0, us, es, hv, hd, h2, hc2⟩ := h.str hc
  subst hv; subst hd
  clear h hc
  have h := h2; have hc := hc2; clear h2 hc2
  obtain ⟨b1, us, es, hv, hd, h2, hc2⟩ := h.bool hc
  subst hv; subst hd
  clear h hc
  have h := h2; have hc := hc2; clear h2 hc2
  obtain ⟨b2p, b2n, b2c, b2z, us, es, hv, hd, b2h, h2, hc2⟩ := h.ints hc
  subst hv; subst hd
  clear h hc
  have h := h2; have hc := hc2; clear h2 hc2
  obtain ⟨hv, hd⟩ := h.done hc
  subst hv; subst hd; clear h hc
  exact ⟨_, _, _, _, _, _, rfl, rfl, b2h⟩
theorem open_Row {w : World} {vs : List Value} {ds : List D0} (h : Reps w vs ds) (hc : ds.map D0.code = [.str, .bool, .ints, .str, .bool, .ints, .str, .bool, .ints]) :
    ∃ (a0 : ByteArray) (a1 : Bool) (a2p : Option Addr) (a2n a2c : Nat) (a2z : List Int) (a3 : ByteArray) (a4 : Bool) (a5p : Option Addr) (a5n a5c : Nat) (a5z : List Int) (a6 : ByteArray) (a7 : Bool) (a8p : Option Addr) (a8n a8c : Nat) (a8z : List Int), vs = [.string a0, .bool a1, .slice a2p a2n a2c, .string a3, .bool a4, .slice a5p a5n a5c, .string a6, .bool a7, .slice a8p a8n a8c] /\ ds = [.str a0, .bool a1, .ints a2z, .str a3, .bool a4, .ints a5z, .str a6, .bool a7, .ints a8z] /\ IntsR w a2p a2n a2c a2z /\ IntsR w a5p a5n a5c a5z /\ IntsR w a8p a8n a8c a8z := by
  obtain ⟨b0, us, es, hv, hd, h2, hc2⟩ := h.str hc
  subst hv; subst hd
  clear h hc
  have h := h2; have hc := hc2; clear h2 hc2
  obtain ⟨b1, us, es, hv, hd, h2, hc2⟩ := h.bool hc
  subst hv; subst hd
  clear h hc
  have h := h2; have hc := hc2; clear h2 hc2
  obtain ⟨b2p, b2n, b2c, b2z, us, es, hv, hd, b2h, h2, hc2⟩ := h.ints hc
  subst hv; subst hd
  clear h hc
  have h := h2; have hc := hc2; clear h2 hc2
  obtain ⟨b3, us, es, hv, hd, h2, hc2⟩ := h.str hc
  subst hv; subst hd
  clear h hc
  have h := h2; have hc := hc2; clear h2 hc2
  obtain ⟨b4, us, es, hv, hd, h2, hc2⟩ := h.bool hc
  subst hv; subst hd
  clear h hc
  have h := h2; have hc := hc2; clear h2 hc2
  obtain ⟨b5p, b5n, b5c, b5z, us, es, hv, hd, b5h, h2, hc2⟩ := h.ints hc
  subst hv; subst hd
  clear h hc
  have h := h2; have hc := hc2; clear h2 hc2
  obtain ⟨b6, us, es, hv, hd, h2, hc2⟩ := h.str hc
  subst hv; subst hd
  clear h hc
  have h := h2; have hc := hc2; clear h2 hc2
  obtain ⟨b7, us, es, hv, hd, h2, hc2⟩ := h.bool hc
  subst hv; subst hd
  clear h hc
  have h := h2; have hc := hc2; clear h2 hc2
  obtain ⟨b8p, b8n, b8c, b8z, us, es, hv, hd, b8h, h2, hc2⟩ := h.ints hc
  subst hv; subst hd
  clear h hc
  have h := h2; have hc := hc2; clear h2 hc2
  obtain ⟨hv, hd⟩ := h.done hc
  subst hv; subst hd; clear h hc
  exact ⟨_, _, _, _, _, _, _, _, _, _, _, _, _, _, _, _, _, _, rfl, rfl, b2h, b5h, b8h⟩
end Go.Proofs.YtbgokfhcgcoipaaGreatDoor
namespace Go.Proofs.YtbgokfhcgcoipaaGreatDoor
open Go Go.Proofs.YtbgokfhcgcoipaaGreatDoor.Sx
theorem ints_at {w : World} {p : Option Addr} {n c : Nat} {zs : List Int} (h : IntsR w p n c zs) {i : Int} (h0 : 0 <= i) (h1 : i < n) :
    ∃ a, p = some a /\ Loads P T_int (a.add (i.toNat * 1)) (.int .i64 (zs.getD i.toNat 0)) w := by
  obtain ⟨a, hp, hl⟩ := h.at (P := P) (t := T_int) (k := i.toNat) (by kernel_rfl) (by omega)
  have hz : i.toNat < zs.length := by rw [h.1]; omega
  refine ⟨a, hp, ?_⟩
  rw [List.getD_eq_getElem?_getD, List.getElem?_eq_getElem hz]
  simpa using hl
def isLimb (z : Int) : Bool := decide (0 <= z /\ z <= 999999999)
def natOk (zs : List Int) : Bool := zs.all isLimb && decide (zs.length <= 50) && !(decide (zs.getLast? = some 0))
theorem getLast_getD {zs : List Int} (h : 0 < zs.length) : zs.getLast? = some (zs.getD (zs.length - 1) 0) := by
  rw [List.getLast?_eq_getElem?, List.getD_eq_getElem?_getD, List.getElem?_eq_getElem (by omega)]
  rfl
theorem all_getD {zs : List Int} (h : ∀ k < zs.length, isLimb (zs.getD k 0) = true) : zs.all isLimb = true := by
  rw [List.all_eq_true]
  intro z hz
  obtain ⟨i, hi, rfl⟩ := List.getElem_of_mem hz
  have := h i hi
  rwa [List.getD_eq_getElem?_getD, List.getElem?_eq_getElem hi] at this
theorem not_all_getD {zs : List Int} {k : Nat} (hk : k < zs.length) (h : isLimb (zs.getD k 0) = false) : zs.all isLimb = false := by
  rw [List.getD_eq_getElem?_getD, List.getElem?_eq_getElem hk] at h
  rw [List.all_eq_false]
  exact ⟨_, List.getElem_mem hk, by simpa using h⟩
theorem impl_NatOk_c {w : World} {p : Option Addr} {n c : Nat} {zs : List Int} (h : IntsR w p n c zs) : Ret P n_impl_NatOk [.slice p n c] w fun v w' => v = .bool (natOk zs) /\ Ext w w' := by
  have hlen := h.1; have hcap := h.2.1; have hcm := h.2.2.1
  have J : ∀ wr, Ext w wr -> zs.length <= 50 -> zs.getLast? ≠ some 0 -> impl_NatOk_j0 p n wr fun v w' => v = .bool (natOk zs) /\ Ext w w' := by
    intro wr hx0 h50 hl0
    unfold impl_NatOk_j0
    refine ⟨fun i wr => ∃ k : Nat, i = k /\ k <= n /\ Ext w wr /\ ∀ j < k, isLimb (zs.getD j 0) = true, fun i _ => n - i.toNat, ⟨0, rfl, by omega, hx0, fun j hj => by omega⟩, ?_⟩
    intro junk wr i ⟨k, hik, hk, hx, hall⟩
    subst hik
    refine ifD (fun hlt => ?_) (fun hge => ⟨?_, hx⟩)
    · obtain ⟨a, rfl, hl⟩ := ints_at (h.ext hx) (i := (k : Int)) (by omega) (by omega)
      have no : isLimb (zs.getD k 0) = false -> Value.bool false = .bool (natOk zs) := fun hf => by
        have : zs.all isLimb = false := not_all_getD (k := k) (by omega) hf
        simp [natOk, this]
      refine ⟨⟨by omega, by omega⟩, _, hl, ifD (fun hb => ifT ⟨no (by simp [isLimb]; simp at hb; omega), hx⟩) (fun hb => ifD (fun hb2 => ⟨no (by simp [isLimb]; simp at hb2; omega), hx⟩) (fun hb2 => ?_))⟩
      refine exW ⟨by omega, by omega⟩ ⟨⟨k + 1, by omega, by omega, hx, fun j hj => ?_⟩, by simp; omega⟩
      by_cases hjk : j < k
      · exact hall j hjk
      · obtain rfl : j = k := by omega
        simp [isLimb]; simp at hb hb2; omega
    · have hal : zs.all isLimb = true := all_getD (fun j hj => hall j (by omega))
      simp [natOk, hal, h50, hl0]
  refine impl_NatOk_ret ?_
  unfold impl_NatOk
  refine ifD (fun hgt => ifT ⟨by simp [natOk, show ¬ zs.length <= 50 by omega], Ext.refl _⟩) (fun hle => ifD (fun hpos => ?_) (fun h0 => ifF ?_))
  · obtain ⟨a, rfl, hl⟩ := ints_at h (i := (n : Int) - 1) (by omega) (by omega)
    have e : ((n : Int) - 1).toNat = zs.length - 1 := by omega
    have hg := getLast_getD (show 0 < zs.length by omega)
    rw [<- e] at hg
    refine exW ⟨by omega, by omega⟩ ⟨⟨by omega, by omega⟩, _, hl, ifD (fun hz => ⟨?_, Ext.refl _⟩) (fun hz => J w (Ext.refl _) (by omega) (by rw [hg]; simpa using hz))⟩
    simp only [natOk, hg, hz]; simp
  · have : zs = [] := List.eq_nil_of_length_eq_zero (by omega)
    exact J w (Ext.refl _) (by omega) (by rw [this]; simp)
def lexR : List Int -> List Int -> Int
  | x :: xs, y :: ys => if x < y then -1 else if y < x then 1 else lexR xs ys
  | _, _ => 0
def cmpL (a b : List Int) : Int := if a.length < b.length then -1 else if b.length < a.length then 1 else lexR a.reverse b.reverse
theorem lexR_same : ∀ (a : List Int), lexR a a = 0
  | [] => rfl
  | x :: xs => by simp [lexR, lexR_same xs]
theorem lexR_at : ∀ (t : List Int) {x y : Int} {s r : List Int}, x ≠ y -> lexR (t ++ x :: s) (t ++ y :: r) = if x < y then -1 else 1
  | [], x, y, s, r, h => by
    simp only [List.nil_append, lexR]
    by_cases h1 : x < y
    · simp [h1]
    · simp [h1, show y < x by omega]
  | z :: t, x, y, s, r, h => by simp [lexR, lexR_at t h]
theorem lexR_zero : ∀ (a b : List Int), a.length = b.length -> lexR a b = 0 -> a = b
  | [], [], _, _ => rfl
  | x :: xs, y :: ys, hl, h => by
    simp only [lexR] at h
    by_cases h1 : x < y
    · simp [h1] at h
    · by_cases h2 : y < x
      · simp [h1, h2] at h
      · simp only [h1, h2, if_false] at h
        rw [lexR_zero xs ys (by simpa using hl) h, show x = y by omega]
theorem cmpL_zero {a b : List Int} : cmpL a b = 0 ↔ a = b := by
  constructor
  · intro h
    unfold cmpL at h
    split at h
    · cases h
    · split at h
      · cases h
      · have := lexR_zero _ _ (by simp; omega) h
        simpa using this
  · rintro rfl; simp [cmpL, lexR_same]
theorem cmpL_at {a b : List Int} {i : Nat} (hl : a.length = b.length) (hi : i < a.length) (ht : ∀ j, i < j -> a.getD j 0 = b.getD j 0) (hne : a.getD i 0 ≠ b.getD i 0) : cmpL a b = if a.getD i 0 < b.getD i 0 then -1 else 1 := by
  have hi2 : i < b.length := by omega
  have e1 : a = a.take i ++ a.getD i 0 :: a.drop (i + 1) := by
    rw [List.getD_eq_getElem?_getD, List.getElem?_eq_getElem hi, Option.getD_some, <- List.drop_eq_getElem_cons, List.take_append_drop]
  have e2 : b = b.take i ++ b.getD i 0 :: b.drop (i + 1) := by
    rw [List.getD_eq_getElem?_getD, List.getElem?_eq_getElem hi2, Option.getD_some, <- List.drop_eq_getElem_cons, List.take_append_drop]
  have ed : a.drop (i + 1) = b.drop (i + 1) := by
    apply List.ext_getElem (by simp; omega)
    intro k h1 h2
    have := ht (i + 1 + k) (by omega)
    simp only [List.length_drop] at h1 h2
    rw [List.getD_eq_getElem?_getD, List.getD_eq_getElem?_getD, List.getElem?_eq_getElem (by omega), List.getElem?_eq_getElem (by omega)] at this
    simpa using this
  have r1 : a.reverse = (a.drop (i + 1)).reverse ++ a.getD i 0 :: (a.take i).reverse := (congrArg List.reverse e1).trans (by simp)
  have r2 : b.reverse = (a.drop (i + 1)).reverse ++ b.getD i 0 :: (b.take i).reverse := (congrArg List.reverse e2).trans (by simp [ed])
  unfold cmpL
  rw [if_neg (by omega), if_neg (by omega), r1, r2, lexR_at _ hne]
theorem cmpL_all {a b : List Int} (hl : a.length = b.length) (ht : ∀ j, a.getD j 0 = b.getD j 0) : cmpL a b = 0 := by
  have : a = b := by
    apply List.ext_getElem hl
    intro k h1 h2
    have := ht k
    rw [List.getD_eq_getElem?_getD, List.getD_eq_getElem?_getD, List.getElem?_eq_getElem h1, List.getElem?_eq_getElem h2] at this
    simpa using this
  exact cmpL_zero.2 this
theorem getD_beyond {a : List Int} {j : Nat} (h : a.length <= j) : a.getD j 0 = 0 := by
  rw [List.getD_eq_getElem?_getD, List.getElem?_eq_none h]; rfl
theorem impl_natCmp_c {w : World} {p q : Option Addr} {n c m d : Nat} {zs ys : List Int} (h : IntsR w p n c zs) (k : IntsR w q m d ys) :
    Ret P n_impl_natCmp [.slice p n c, .slice q m d] w fun v w' => v = .int .i64 (cmpL zs ys) /\ Ext w w' := by
  refine impl_natCmp_ret ?_
  unfold impl_natCmp
  have hz := h.1; have hy := k.1; have hcap := h.2.1; have hcm := h.2.2.1
  refine ifD (fun hne => ifD (fun hlt => ⟨?_, Ext.refl _⟩) (fun hge => ⟨?_, Ext.refl _⟩)) (fun heq => ?_)
  · rw [cmpL, if_pos (by omega)]
  · rw [cmpL, if_neg (by omega), if_pos (by omega)]
  · have hnm : n = m := by omega
    refine exW ⟨by omega, by omega⟩ ⟨fun i wr => -1 <= i /\ i < n /\ Ext w wr /\ ∀ j : Nat, i < j -> zs.getD j 0 = ys.getD j 0, fun i _ => (i + 1).toNat, ⟨by omega, by omega, Ext.refl _, fun j hj => by rw [getD_beyond (by omega), getD_beyond (by omega)]⟩, ?_⟩
    intro junk wr i ⟨h1, h2, hx, ht⟩
    refine ifD (fun h0 => ?_) (fun hneg => ⟨?_, hx⟩)
    · have hx1 := hx.trans (Ext.drew wr)
      have hx2 := hx1.trans (Ext.drew _)
      obtain ⟨a, hpa, _⟩ := ints_at h h0 h2
      obtain ⟨b, hqb, _⟩ := ints_at k h0 (show i < m by omega)
      subst hpa; subst hqb
      have l1 : ∀ w', Ext w w' -> Loads P T_int (a.add (i.toNat * 1)) (.int .i64 (zs.getD i.toNat 0)) w' := fun w' hw => by
        obtain ⟨a', ha, hl⟩ := ints_at (h.ext hw) h0 h2
        cases ha; exact hl
      have l2 : ∀ w', Ext w w' -> Loads P T_int (b.add (i.toNat * 1)) (.int .i64 (ys.getD i.toNat 0)) w' := fun w' hw => by
        obtain ⟨a', ha, hl⟩ := ints_at (k.ext hw) h0 (show i < m by omega)
        cases ha; exact hl
      have ht' : ∀ j : Nat, i.toNat < j -> zs.getD j 0 = ys.getD j 0 := fun j hj => ht j (by omega)
      refine ⟨⟨by omega, by omega⟩, _, fun w' hw => l1 w' (hx1.trans hw), ⟨by omega, by omega⟩, _, fun w' hw => l2 w' (hx1.trans hw), ifD (fun hne => ?_) (fun heq2 => ?_)⟩
      · refine ⟨⟨by omega, by omega⟩, _, fun w' hw => l1 w' (hx2.trans hw), ⟨by omega, by omega⟩, _, fun w' hw => l2 w' (hx2.trans hw), ifD (fun hlt => ⟨?_, hx2⟩) (fun hge => ⟨?_, hx2⟩)⟩
        · rw [cmpL_at (by omega) (by omega) ht' hne, if_pos hlt]
        · rw [cmpL_at (by omega) (by omega) ht' hne, if_neg hge]
      · have heq2 : zs.getD i.toNat 0 = ys.getD i.toNat 0 := by simpa using heq2
        refine exW ⟨by omega, by omega⟩ ⟨⟨by omega, by omega, hx1, fun j hj => ?_⟩, by show (i - 1 + 1).toNat < (i + 1).toNat; omega⟩
        by_cases e : j = i.toNat
        · subst e; omega
        · exact ht j (by omega)
    · rw [cmpL_all (by omega) (fun j => ht j (by omega))]
theorem impl_sameInts_c {w : World} {p q : Option Addr} {n c m d : Nat} {zs ys : List Int} (h : IntsR w p n c zs) (k : IntsR w q m d ys) :
    Ret P n_impl_sameInts [.slice p n c, .slice q m d] w fun v w' => v = .bool (decide (zs = ys)) /\ Ext w w' := by
  refine impl_sameInts_ret ?_
  unfold impl_sameInts
  have hz := h.1; have hy := k.1; have hcap := h.2.1; have hcm := h.2.2.1
  refine ifD (fun hne => ⟨dec_no (fun e => hne (by rw [<- hz, <- hy, e])), Ext.refl _⟩) (fun heq => ?_)
  have hnm : n = m := by omega
  refine ⟨fun i wr => ∃ j : Nat, i = j /\ j <= n /\ Ext w wr /\ ∀ k < j, zs.getD k 0 = ys.getD k 0, fun i _ => n - i.toNat, ⟨0, rfl, by omega, Ext.refl _, fun k hk => by omega⟩, ?_⟩
  intro junk wr i ⟨j, hij, hj, hx, he⟩
  subst hij
  refine ifD (fun hlt => ?_) (fun hge => ⟨dec_yes ?_, hx⟩)
  · have hx1 := hx.trans (Ext.drew wr)
    obtain ⟨a, hpa, _⟩ := ints_at h (i := (j : Int)) (by omega) hlt
    obtain ⟨b, hqb, _⟩ := ints_at k (i := (j : Int)) (by omega) (by omega)
    subst hpa; subst hqb
    refine ⟨⟨by omega, by omega⟩, zs.getD j 0, fun w' hw => ?_, ⟨by omega, by omega⟩, ys.getD j 0, fun w' hw => ?_, ifD (fun hne => ⟨dec_no (fun e => ?_), hx1⟩) (fun heq2 => ?_)⟩
    · obtain ⟨a', ha, hl⟩ := ints_at (h.ext (hx1.trans hw)) (i := (j : Int)) (by omega) hlt
      cases ha; exact hl
    · obtain ⟨a', ha, hl⟩ := ints_at (k.ext (hx1.trans hw)) (i := (j : Int)) (by omega) (by omega)
      cases ha; exact hl
    · subst e; exact hne rfl
    · refine exW ⟨by omega, by omega⟩ ⟨⟨j + 1, by omega, by omega, hx1, fun k hk => ?_⟩, by simp; omega⟩
      by_cases e : k = j
      · subst e; simpa using heq2
      · exact he k (by omega)
  · apply List.ext_getElem (by omega)
    intro k h1 h2
    have := he k (by omega)
    rw [List.getD_eq_getElem?_getD, List.getD_eq_getElem?_getD, List.getElem?_eq_getElem h1, List.getElem?_eq_getElem h2] at this
    simpa using this
theorem impl_intSame_c {w : World} {xs ys : List Value} {dx dy : List D0} (h : Reps w xs dx) (k : Reps w ys dy) (hc : dx.map D0.code = [.bool, .ints]) (kc : dy.map D0.code = [.bool, .ints]) :
    Ret P n_impl_intSame [.agg ⟨xs⟩, .agg ⟨ys⟩] w fun v w' => v = .bool (decide (dx = dy)) /\ Ext w w' := by
  obtain ⟨a0, a1p, a1n, a1c, a1z, rfl, rfl, ha⟩ := open_Signed h hc
  obtain ⟨b0, b1p, b1n, b1c, b1z, rfl, rfl, hb⟩ := open_Signed k kc
  refine impl_intSame_ret ?_
  unfold impl_intSame
  intro r w1 hn1 r1 w2 hn2
  have x := hn1.ext.trans hn2.ext
  have k0 := hn1.blk.ext hn2.ext; have k1 := hn2.blk
  refine ⟨_, k0.load (by kernel_rfl) rfl, _, k1.load (by kernel_rfl) rfl, fun e => ?_, fun e => ⟨dec_no (fun h => by simp at h; simp [h] at e), x⟩⟩
  refine ⟨_, _, _, k0.load (by kernel_rfl) rfl, _, _, _, k1.load (by kernel_rfl) rfl, ?_⟩
  refine Ret.at (impl_sameInts_c (ha.ext x) (hb.ext x)) ?_
  rintro v w3 ⟨hv, y⟩
  subst hv
  refine ⟨_, rfl, ?_, x.trans y⟩
  have e : a0 = b0 := by simpa using e
  subst e
  simp
end Go.Proofs.YtbgokfhcgcoipaaGreatDoor
namespace Go.Proofs.YtbgokfhcgcoipaaGreatDoor
open Go Go.Proofs.YtbgokfhcgcoipaaGreatDoor.Sx
def ByR (W : World) (p : Option Addr) (n : Nat) : Prop := 0 < n -> ∃ (b o : Nat) (zs : List Int), p = some ⟨b, o, none⟩ /\ zs.length = n /\ Seg W b o (zs.map (Value.int .u8)) /\ b < W.heap.size
theorem ByR.ext {W W' : World} {p : Option Addr} {n : Nat} (h : ByR W p n) (he : Ext W W') : ByR W' p n := fun hn => by
  obtain ⟨b, o, zs, h1, h2, h3, h4⟩ := h hn
  exact ⟨b, o, zs, h1, h2, h3.ext he, Nat.lt_of_lt_of_le h4 he.le⟩
theorem ByR.chg {W W' : World} {p : Option Addr} {n r : Nat} (h : ByR W p n) (he : Chg [r] W W') (hr : 0 < n -> ∀ q, p.map (·.block) = some q -> q ≠ r) : ByR W' p n := fun hn => by
  obtain ⟨b, o, zs, rfl, h2, h3, h4⟩ := h hn
  exact ⟨b, o, zs, rfl, h2, h3.chg he (fun hm => hr hn b rfl (List.mem_singleton.1 hm)), Nat.lt_of_lt_of_le h4 he.size⟩
theorem ByR.at {W : World} {p : Option Addr} {n : Nat} (h : ByR W p n) {i : Int} (h0 : 0 <= i) (h1 : i < n) : ∃ a z, p = some a /\ Loads P T_uint8 (a.add (i.toNat * 1)) (.int .u8 z) W := by
  obtain ⟨b, o, zs, rfl, h2, h3, h4⟩ := h (by omega)
  have hk : i.toNat < zs.length := by omega
  refine ⟨⟨b, o, none⟩, zs[i.toNat], rfl, h3.load (by kernel_rfl) ?_⟩
  rw [Nat.mul_one, List.getElem?_map, List.getElem?_eq_getElem hk]; rfl
def Cur (W : World) (r : Nat) (p : Option Addr) (n c : Nat) : Prop := ∃ (e : TypeId) (i h : Int), 0 <= i /\ Blk W r e [.slice p n c, .int .i64 i, .int .i64 h]
theorem Cur.ext {W W' : World} {r n c : Nat} {p : Option Addr} (h : Cur W r p n c) (he : Ext W W') : Cur W' r p n c := by
  obtain ⟨e, i, x, h1, h2⟩ := h; exact ⟨e, i, x, h1, h2.ext he⟩
theorem Cur.lt {W : World} {r n c : Nat} {p : Option Addr} (h : Cur W r p n c) : r < W.heap.size := by
  obtain ⟨e, i, x, h1, h2⟩ := h; exact h2.lt
theorem and255 (x : Int) : ∃ z : Int, z = IntKind.wrap .i64 (((BitVec.ofInt (IntKind.bits .i64) x &&& BitVec.ofInt (IntKind.bits .i64) 255).toNat : Nat) : Int) /\ 0 <= z /\ z <= 255 := by
  have h : (BitVec.ofInt (IntKind.bits .i64) x &&& BitVec.ofInt (IntKind.bits .i64) 255).toNat <= 255 := by
    rw [BitVec.toNat_and]
    exact Nat.le_trans Nat.and_le_right (by decide)
  exact ⟨_, rfl, by rw [wrap64 (by omega) (by omega)]; omega, by rw [wrap64 (by omega) (by omega)]; omega⟩
theorem spec_l01New_c {w : World} {p : Option Addr} {n c : Nat} (h : ByR w p n) (hn : n <= 1048576) : Ret P n_spec_l01New [.slice p n c] w fun v w' => ∃ r, v = .pointer (some ⟨r, 0, none⟩) /\ w.heap.size <= r /\ Cur w' r p n c /\ Ext w w' := by
  refine spec_l01New_ret ?_
  unfold spec_l01New
  refine ⟨_, rfl, fun _ i W => ∃ k : Nat, i = k /\ W = w, fun _ i _ => n - i.toNat, ⟨0, rfl, rfl⟩, ?_⟩
  rintro junk W hh i ⟨k, rfl, rfl⟩
  have fin : ∀ (r : Nat) (w1 : World), New W (.cells ⟨[.slice p n c, .int .i64 0, .int .i64 hh]⟩ T_spec_l01Cur (0, 0)) r w1 -> ∃ r', Value.pointer (some ⟨r, 0, none⟩) = .pointer (some ⟨r', 0, none⟩) /\ W.heap.size <= r' /\ Cur w1 r' p n c /\ Ext W w1 := fun r w1 hn1 =>
    ⟨r, rfl, by have := hn1.r_eq; omega, ⟨_, 0, hh, by omega, hn1.blk⟩, hn1.ext⟩
  refine ifD (fun hlt => ifD (fun h4 => ?_) (fun _ => fin)) (fun hge => ifF fin)
  unfold spec_l01New_j0
  obtain ⟨a, z, rfl, hl⟩ := h.at (i := (k : Int)) (by omega) hlt
  refine ⟨_, rfl, ⟨by omega, hlt⟩, _, hl, _, rfl, _, rfl, _, rfl, _, rfl, exW ⟨by omega, by omega⟩ ⟨⟨k + 1, by omega, rfl⟩, ?_⟩⟩
  show n - ((k : Int) + 1).toNat < n - (k : Int).toNat
  omega
theorem spec_l01Byte_c {w : World} {r n c : Nat} {p : Option Addr} (hc : Cur w r p n c) (hb : ByR w p n) (hne : 0 < n -> ∀ q, p.map (·.block) = some q -> q ≠ r) (hn : n <= 1048576) :
    Ret P n_spec_l01Byte [.pointer (some ⟨r, 0, none⟩)] w fun v w' => ∃ z : Int, v = .int .i64 z /\ 0 <= z /\ z <= 255 /\ Cur w' r p n c /\ Chg [r] w w' := by
  obtain ⟨e, i, hh, hi, hblk⟩ := hc
  refine spec_l01Byte_ret ?_
  unfold spec_l01Byte
  refine ⟨_, hblk.load (by kernel_rfl) rfl, _, rfl, _, rfl, ?_⟩
  obtain ⟨w1, st1, hb1, ch1, _⟩ := hblk.store (P := P) (t := T_int) (k := 2) (v := .int .i64 (IntKind.wrap .i64 (IntKind.wrap .i64 (hh * 6364136223846793005) + 1442695040888963407))) (by kernel_rfl) (by simp) rfl
  have D1 := Ext.drew w1
  have D2 := D1.trans (Ext.drew w1.drew)
  have D3 := D2.trans (Ext.drew w1.drew.drew)
  have hb2 := hb1.ext D2; have hb3 := hb1.ext D3
  have hby := (hb.chg ch1 hne).ext D3
  refine ⟨w1, st1, _, fun W hW => ((hb1.ext D1).ext hW).load (by kernel_rfl) rfl, by decide, _, rfl, _, fun W hW => ((hb1.ext D1).ext hW).load (by kernel_rfl) rfl, by decide, _, rfl, _, rfl, ?_⟩
  obtain ⟨z1, hz1, z10, z11⟩ := and255 (IntKind.wrap .i64 (((BitVec.ofInt (IntKind.bits .i64) (Int.fdiv (IntKind.wrap .i64 (IntKind.wrap .i64 (hh * 6364136223846793005) + 1442695040888963407)) (2 ^ (min (33 : Int).toNat (IntKind.bits .i64)))) ^^^ BitVec.ofInt (IntKind.bits .i64) (Int.fdiv (IntKind.wrap .i64 (IntKind.wrap .i64 (hh * 6364136223846793005) + 1442695040888963407)) (2 ^ (min (45 : Int).toNat (IntKind.bits .i64))))).toNat : Nat) : Int))
  refine ⟨z1, hz1, _, fun W hW => (hb2.ext hW).load (by kernel_rfl) rfl, _, _, _, fun W hW => (hb2.ext hW).load (by kernel_rfl) rfl, ifD (fun hlt => ?_) (fun hge => ?_)⟩
  · obtain ⟨a, z, hpa, _⟩ := hby.at hi hlt
    obtain ⟨b, o, zs, hpe, hzl, hseg, hblt⟩ := hby (by omega)
    have hpo : p = some ⟨b, o, none⟩ := hpe
    subst hpo
    have hk : i.toNat < zs.length := by omega
    refine ⟨_, _, _, fun W hW => (hb3.ext hW).load (by kernel_rfl) rfl, _, fun W hW => (hb3.ext hW).load (by kernel_rfl) rfl, ⟨hi, hlt⟩, ?_⟩
    refine ⟨zs[i.toNat], fun W hW => (hseg.ext hW).load (by kernel_rfl) (by rw [Nat.mul_one, List.getElem?_map, List.getElem?_eq_getElem hk]; rfl), _, rfl, _, rfl, ?_⟩
    obtain ⟨z2, hz2, z20, z21⟩ := and255 (IntKind.wrap .i64 (z1 + IntKind.wrap .i64 zs[i.toNat]))
    refine ⟨z2, hz2, _, hb3.load (by kernel_rfl) rfl, exW ⟨by omega, by omega⟩ ?_⟩
    obtain ⟨w2, st2, hb4, ch2, _⟩ := hb3.store (P := P) (t := T_int) (k := 1) (v := .int .i64 (i + 1)) (by kernel_rfl) (by simp) rfl
    refine ⟨w2, st2, ?_⟩
    unfold spec_l01Byte_j0
    exact ⟨z2, rfl, z20, z21, ⟨e, i + 1, IntKind.wrap .i64 (IntKind.wrap .i64 (hh * 6364136223846793005) + 1442695040888963407), by omega, hb4⟩, (ch1.trans D3.toChg).trans ch2⟩
  · unfold spec_l01Byte_j0
    exact ⟨z1, rfl, z10, z11, ⟨e, i, IntKind.wrap .i64 (IntKind.wrap .i64 (hh * 6364136223846793005) + 1442695040888963407), hi, hb2⟩, ch1.trans D2.toChg⟩
theorem spec_l01Below_c {w : World} {r n c : Nat} {p : Option Addr} (hc : Cur w r p n c) (hb : ByR w p n) (hne : 0 < n -> ∀ q, p.map (·.block) = some q -> q ≠ r) (hn : n <= 1048576) {k : Int} (hk : 0 < k) (hk2 : k <= 1000000000) :
    Ret P n_spec_l01Below [.pointer (some ⟨r, 0, none⟩), .int .i64 k] w fun v w' => ∃ z : Int, v = .int .i64 z /\ 0 <= z /\ z < k /\ Cur w' r p n c /\ Chg [r] w w' := by
  refine spec_l01Below_ret ?_
  unfold spec_l01Below
  refine ifD (fun h => by omega) (fun _ => ifD (fun _ => ?_) (fun _ => ?_))
  · refine Ret.at (spec_l01Byte_c hc hb hne hn) ?_
    rintro v w1 ⟨z, rfl, z0, z1, hc1, ch1⟩
    refine ⟨_, rfl, by omega, _, rfl, _, rfl, ?_, ?_, hc1, ch1⟩
    · exact Int.tmod_nonneg _ z0
    · rw [Int.tmod_eq_emod_of_nonneg z0]; exact Int.emod_lt_of_pos _ hk
  · refine Ret.at (spec_l01Byte_c hc hb hne hn) ?_
    rintro v w1 ⟨x1, rfl, a0, a1, hc1, ch1⟩
    refine ⟨_, rfl, ?_⟩
    have hb1 := hb.chg ch1 hne
    refine Ret.at (spec_l01Byte_c hc1 hb1 hne hn) ?_
    rintro v w2 ⟨x2, rfl, b0, b1, hc2, ch2⟩
    refine ⟨_, rfl, ?_⟩
    have hb2 := hb1.chg ch2 hne
    refine Ret.at (spec_l01Byte_c hc2 hb2 hne hn) ?_
    rintro v w3 ⟨x3, rfl, c0, c1, hc3, ch3⟩
    refine ⟨_, rfl, ?_⟩
    have hb3 := hb2.chg ch3 hne
    refine Ret.at (spec_l01Byte_c hc3 hb3 hne hn) ?_
    rintro v w4 ⟨x4, rfl, d0, d1, hc4, ch4⟩
    refine ⟨_, rfl, exW ⟨by omega, by omega⟩ (exW ⟨by omega, by omega⟩ (exW ⟨by omega, by omega⟩ (exW ⟨by omega, by omega⟩ (exW ⟨by omega, by omega⟩ (exW ⟨by omega, by omega⟩ ⟨by omega, _, rfl, _, rfl, ?_, ?_, hc4, ((ch1.trans ch2).trans ch3).trans ch4⟩)))))⟩
    · exact Int.tmod_nonneg _ (by omega)
    · rw [Int.tmod_eq_emod_of_nonneg (by omega)]; exact Int.emod_lt_of_pos _ hk
theorem spec_l01Pick_c {w : World} {r n c : Nat} {p : Option Addr} (hc : Cur w r p n c) (hb : ByR w p n) (hne : 0 < n -> ∀ q, p.map (·.block) = some q -> q ≠ r) (hn : n <= 1048576) {lp : Option Addr} {ln lc : Nat} {zs : List Int} (hl : IntsR w lp ln lc zs) (hlr : ∀ q, lp.map (·.block) = some q -> q ≠ r) (h0 : 0 < ln) (h1 : ln <= 1000) :
    Ret P n_spec_l01Pick [.pointer (some ⟨r, 0, none⟩), .slice lp ln lc] w fun v w' => ∃ z : Int, v = .int .i64 z /\ z ∈ zs /\ Cur w' r p n c /\ Chg [r] w w' := by
  refine spec_l01Pick_ret ?_
  unfold spec_l01Pick
  refine Ret.at (spec_l01Below_c hc hb hne hn (k := ((ln : Nat) : Int)) (by omega) (by omega)) ?_
  rintro v w1 ⟨z, rfl, z0, z1, hc1, ch1⟩
  have hl1 := hl.chg ch1 (fun q hq hm => hlr q hq (List.mem_singleton.1 hm))
  obtain ⟨a, rfl, hld⟩ := ints_at hl1 z0 z1
  refine ⟨_, rfl, ⟨z0, z1⟩, _, hld, _, rfl, ?_, hc1, ch1⟩
  have hk : z.toNat < zs.length := by have := hl.1; omega
  rw [List.getD_eq_getElem?_getD, List.getElem?_eq_getElem hk]
  exact List.getElem_mem hk
end Go.Proofs.YtbgokfhcgcoipaaGreatDoor
namespace Go.Proofs.YtbgokfhcgcoipaaGreatDoor
open Go Go.Proofs.YtbgokfhcgcoipaaGreatDoor.Sx
def intOk : List D0 -> Bool
  | [.bool b, .ints z] => natOk z && (!b || !z.isEmpty)
  | _ => false
theorem intOk_len {b : Bool} {z : List Int} {n : Nat} (h : z.length = n) : (decide ((0 : Int) < (n : Nat))) = !z.isEmpty := by
  cases z with
  | nil => simp at h; simp [<- h]
  | cons a r => simp at h; simp [<- h]
theorem impl_IntOk_c {w : World} {xs : List Value} {dx : List D0} (h : Reps w xs dx) (hc : dx.map D0.code = [.bool, .ints]) :
    Ret P n_impl_IntOk [.agg ⟨xs⟩] w fun v w' => v = .bool (intOk dx) /\ Ext w w' := by
  obtain ⟨a0, a1p, a1n, a1c, a1z, rfl, rfl, ha⟩ := open_Signed h hc
  refine impl_IntOk_ret ?_
  unfold impl_IntOk
  intro r w1 hn
  have x := hn.ext
  refine ⟨_, _, _, hn.blk.load (by kernel_rfl) rfl, ?_⟩
  refine Ret.at (impl_NatOk_c (ha.ext x)) ?_
  rintro v w2 ⟨hv, y⟩
  subst hv
  have b := hn.blk.ext y; have x := x.trans y
  refine ⟨_, rfl, fun e => ⟨_, b.load (by kernel_rfl) rfl, ifN (fun hb => ⟨?_, x⟩) (fun hb => ?_)⟩, fun e => ⟨by simp [intOk, e], x⟩⟩
  · simp [intOk, e, hb]
  · exact ⟨_, _, _, b.load (by kernel_rfl) rfl, by rw [intOk_len (b := a0) ha.1]; simp [intOk, e, hb], x⟩
def isign : List D0 -> Int
  | [.bool a, .ints x] => if !(intOk [.bool a, .ints x]) then 0 else if x.isEmpty then 0 else if a then -1 else 1
  | _ => 0
end Go.Proofs.YtbgokfhcgcoipaaGreatDoor
namespace Go.Proofs.YtbgokfhcgcoipaaGreatDoor
open Go Go.Proofs.YtbgokfhcgcoipaaGreatDoor.Sx
def val : List Int -> Int
  | [] => 0
  | x :: r => x + 1000000000 * val r
def Limbs (l : List Int) : Prop := ∀ x ∈ l, 0 <= x /\ x < 1000000000
def Canon (l : List Int) : Prop := Limbs l /\ l.getLast? ≠ some 0
def digs (n : Nat) : List Int := if h : n = 0 then [] else ((n % 1000000000 : Nat) : Int) :: digs (n / 1000000000)
termination_by n
decreasing_by omega
theorem natOk_spec {l : List Int} : natOk l = true ↔ Canon l /\ l.length <= 50 := by
  unfold natOk Canon Limbs
  simp only [Bool.and_eq_true, List.all_eq_true, isLimb, decide_eq_true_eq, Bool.not_eq_true', decide_eq_false_iff_not]
  constructor
  · rintro ⟨⟨h1, h2⟩, h3⟩
    exact ⟨⟨fun x hx => by have := h1 x hx; omega, h3⟩, h2⟩
  · rintro ⟨⟨h1, h3⟩, h2⟩
    exact ⟨⟨fun x hx => by have := h1 x hx; omega, h2⟩, h3⟩
theorem Limbs.nil : Limbs [] := fun x hx => by simp at hx
theorem Limbs.cons {x : Int} {r : List Int} : Limbs (x :: r) ↔ (0 <= x /\ x < 1000000000) /\ Limbs r := by simp [Limbs]
theorem Limbs.append {a b : List Int} : Limbs (a ++ b) ↔ Limbs a /\ Limbs b := by
  simp only [Limbs, List.mem_append]
  exact ⟨fun h => ⟨fun x hx => h x (.inl hx), fun x hx => h x (.inr hx)⟩, fun h x hx => hx.elim (h.1 x) (h.2 x)⟩
theorem Limbs.take {a : List Int} (h : Limbs a) (k : Nat) : Limbs (a.take k) := fun x hx => h x (List.mem_of_mem_take hx)
theorem Limbs.getD {a : List Int} (h : Limbs a) (k : Nat) : 0 <= a.getD k 0 /\ a.getD k 0 < 1000000000 := by
  by_cases hk : k < a.length
  · rw [List.getD_eq_getElem?_getD, List.getElem?_eq_getElem hk]
    exact h _ (List.getElem_mem hk)
  · rw [getD_beyond (by omega)]; omega
theorem val_nonneg : ∀ {l : List Int}, Limbs l -> 0 <= val l
  | [], _ => Int.le_refl _
  | x :: r, h => by
    have h := Limbs.cons.1 h
    have := val_nonneg h.2
    simp only [val]; omega
theorem val_append : ∀ (a b : List Int), val (a ++ b) = val a + 1000000000 ^ a.length * val b
  | [], b => by simp [val]
  | x :: r, b => by
    simp only [List.cons_append, val, val_append r b, List.length_cons, Int.pow_succ]
    rw [Int.mul_add, <- Int.add_assoc, <- Int.mul_assoc, Int.mul_comm 1000000000 (1000000000 ^ r.length)]
theorem val_lt : ∀ {l : List Int}, Limbs l -> val l < 1000000000 ^ l.length
  | [], _ => by simp [val]
  | x :: r, h => by
    have h := Limbs.cons.1 h
    have := val_lt h.2
    simp only [val, List.length_cons, Int.pow_succ]
    omega
theorem val_take_succ (l : List Int) (k : Nat) : val (l.take (k + 1)) = val (l.take k) + 1000000000 ^ k * l.getD k 0 := by
  by_cases hk : k < l.length
  · rw [List.take_add_one, List.getElem?_eq_getElem hk, Option.toList_some, val_append, List.getD_eq_getElem?_getD, List.getElem?_eq_getElem hk]
    have : (l.take k).length = k := by simp; omega
    rw [this]; simp [val]
  · rw [List.take_of_length_le (by omega), List.take_of_length_le (by omega), getD_beyond (by omega)]; simp
theorem val_snoc (a : List Int) (x : Int) : val (a ++ [x]) = val a + 1000000000 ^ a.length * x := by
  rw [val_append]; simp [val]
theorem digs_zero : digs 0 = [] := by rw [digs]; simp
theorem digs_pos {n : Nat} (h : n ≠ 0) : digs n = ((n % 1000000000 : Nat) : Int) :: digs (n / 1000000000) := by rw [digs]; simp [h]
theorem digs_limbs : ∀ (n : Nat), Limbs (digs n) := by
  intro n
  induction n using Nat.strongRecOn with
  | ind n ih =>
    by_cases h : n = 0
    · subst h; rw [digs_zero]; exact Limbs.nil
    · rw [digs_pos h, Limbs.cons]
      exact ⟨by omega, ih _ (by omega)⟩
theorem val_digs : ∀ (n : Nat), val (digs n) = n := by
  intro n
  induction n using Nat.strongRecOn with
  | ind n ih =>
    by_cases h : n = 0
    · subst h; rw [digs_zero]; rfl
    · rw [digs_pos h, val, ih _ (by omega)]
      omega
theorem digs_last : ∀ (n : Nat), (digs n).getLast? ≠ some 0 := by
  intro n
  induction n using Nat.strongRecOn with
  | ind n ih =>
    by_cases h : n = 0
    · subst h; rw [digs_zero]; simp
    · rw [digs_pos h]
      by_cases h2 : n / 1000000000 = 0
      · rw [h2, digs_zero]
        simp; omega
      · have := ih (n / 1000000000) (by omega)
        rw [digs_pos h2, List.getLast?_cons_cons, <- digs_pos h2]
        exact this
theorem digs_canon (n : Nat) : Canon (digs n) := ⟨digs_limbs n, digs_last n⟩
theorem digs_nil {n : Nat} : digs n = [] ↔ n = 0 := by
  constructor
  · intro h
    by_cases h0 : n = 0
    · exact h0
    · rw [digs_pos h0] at h; cases h
  · rintro rfl; exact digs_zero
theorem Canon.cons {x : Int} {r : List Int} (h : Canon (x :: r)) : (0 <= x /\ x < 1000000000) /\ Canon r /\ (r = [] -> x ≠ 0) := by
  obtain ⟨h1, h2⟩ := h
  have h1 := Limbs.cons.1 h1
  refine ⟨h1.1, ⟨h1.2, ?_⟩, fun e => ?_⟩
  · intro e
    rw [List.getLast?_cons, e] at h2
    simp at h2
  · subst e; simpa using h2
theorem canon_pos : ∀ {l : List Int}, Canon l -> l ≠ [] -> 0 < val l
  | [], _, h => absurd rfl h
  | x :: r, h, _ => by
    obtain ⟨h1, h2, h3⟩ := h.cons
    simp only [val]
    have := val_nonneg h2.1
    by_cases hr : r = []
    · have := h3 hr; subst hr; simp [val]; omega
    · have := canon_pos h2 hr; omega
theorem digs_val : ∀ {l : List Int}, Canon l -> digs (val l).toNat = l
  | [], _ => by simp [val, digs_zero]
  | x :: r, h => by
    obtain ⟨h1, h2, h3⟩ := h.cons
    have hp := canon_pos h (by simp)
    have hv := val_nonneg h2.1
    have e := digs_val h2
    rw [digs_pos (by omega)]
    simp only [val] at hp ⊢
    have e1 : (x + 1000000000 * val r).toNat % 1000000000 = x.toNat := by omega
    have e2 : (x + 1000000000 * val r).toNat / 1000000000 = (val r).toNat := by omega
    rw [e1, e2, e]
    congr 1; omega
def trimL (l : List Int) : List Int := (l.reverse.dropWhile (fun x => decide (x = 0))).reverse
theorem trimL_snoc (l : List Int) (x : Int) : trimL (l ++ [x]) = if x = 0 then trimL l else l ++ [x] := by
  unfold trimL
  by_cases h : x = 0 <;> simp [h]
theorem trimL_take {l : List Int} {k : Nat} (hk : k < l.length) : trimL (l.take (k + 1)) = if l.getD k 0 = 0 then trimL (l.take k) else l.take (k + 1) := by
  have e : l.take (k + 1) = l.take k ++ [l.getD k 0] := by
    rw [List.take_add_one, List.getD_eq_getElem?_getD, List.getElem?_eq_getElem hk]; rfl
  rw [e, trimL_snoc]
theorem trimL_digs : ∀ (n : Nat) {l : List Int}, l.length = n -> Limbs l -> trimL l = digs (val l).toNat
  | 0, l, hn, h => by
    have : l = [] := List.eq_nil_of_length_eq_zero hn
    subst this; simp [val, digs_zero, trimL]
  | n + 1, l, hn, h => by
    have e : l = l.take n ++ [l.getD n 0] := by
      have : l.take (n + 1) = l := List.take_of_length_le (by omega)
      conv => lhs; rw [<- this]
      rw [List.take_add_one, List.getD_eq_getElem?_getD, List.getElem?_eq_getElem (by omega)]; rfl
    rw [e, trimL_snoc]
    have ht := h.take n
    by_cases hx : l.getD n 0 = 0
    · rw [if_pos hx, trimL_digs n (by simp; omega) ht, val_snoc, hx]
      simp
    · rw [if_neg hx, <- e]
      refine (digs_val ⟨h, ?_⟩).symm
      rw [e]; simpa using hx
theorem trimL_eq {l : List Int} (h : Limbs l) : trimL l = digs (val l).toNat := trimL_digs _ rfl h
theorem trimL_len (l : List Int) : (trimL l).length <= l.length := by
  unfold trimL
  rw [List.length_reverse]
  calc (l.reverse.dropWhile _).length <= l.reverse.length := (List.dropWhile_sublist _).length_le
    _ = l.length := by simp
theorem trimL_prefix (l : List Int) : trimL l = l.take (trimL l).length := by
  unfold trimL
  obtain ⟨t, ht⟩ := List.dropWhile_suffix (fun x : Int => decide (x = 0)) (l := l.reverse)
  generalize l.reverse.dropWhile (fun x => decide (x = 0)) = d at ht ⊢
  have : l = d.reverse ++ t.reverse := by
    have := congrArg List.reverse ht
    simpa using this.symm
  rw [this, List.take_left']
  rfl
theorem lex_val : ∀ (a b : List Int), a.length = b.length -> Limbs a -> Limbs b ->
    (lexR a.reverse b.reverse = -1 /\ val a < val b) ∨ (lexR a.reverse b.reverse = 0 /\ val a = val b) ∨ (lexR a.reverse b.reverse = 1 /\ val b < val a) := by
  have key : ∀ (n : Nat) (a b : List Int), a.length = n -> b.length = n -> Limbs a -> Limbs b ->
    (lexR a.reverse b.reverse = -1 /\ val a < val b) ∨ (lexR a.reverse b.reverse = 0 /\ val a = val b) ∨ (lexR a.reverse b.reverse = 1 /\ val b < val a) := by
    intro n
    induction n with
    | zero =>
      intro a b ha hb _ _
      rw [List.eq_nil_of_length_eq_zero ha, List.eq_nil_of_length_eq_zero hb]
      exact .inr (.inl ⟨rfl, rfl⟩)
    | succ n ih =>
      intro a b ha hb la lb
      have split : ∀ {l : List Int}, l.length = n + 1 -> l = l.take n ++ [l.getD n 0] := by
        intro l hl
        have : l.take (n + 1) = l := List.take_of_length_le (by omega)
        conv => lhs; rw [<- this]
        rw [List.take_add_one, List.getD_eq_getElem?_getD, List.getElem?_eq_getElem (by omega)]; rfl
      have ea := split ha; have eb := split hb
      have lta : (a.take n).length = n := by simp; omega
      have ltb : (b.take n).length = n := by simp; omega
      have i := ih (a.take n) (b.take n) lta ltb (la.take n) (lb.take n)
      have va := val_nonneg (la.take n); have vb := val_nonneg (lb.take n)
      have wa := val_lt (la.take n); have wb := val_lt (lb.take n)
      rw [lta] at wa; rw [ltb] at wb
      have e1 : val a = val (a.take n) + 1000000000 ^ n * a.getD n 0 := by conv => lhs; rw [ea, val_snoc, lta]
      have e2 : val b = val (b.take n) + 1000000000 ^ n * b.getD n 0 := by conv => lhs; rw [eb, val_snoc, ltb]
      have r1 : a.reverse = a.getD n 0 :: (a.take n).reverse := (congrArg List.reverse ea).trans (by simp)
      have r2 : b.reverse = b.getD n 0 :: (b.take n).reverse := (congrArg List.reverse eb).trans (by simp)
      rw [r1, r2, lexR]
      have pow : (0 : Int) < 1000000000 ^ n := Int.pow_pos (by decide)
      by_cases h1 : a.getD n 0 < b.getD n 0
      · rw [if_pos h1]
        refine .inl ⟨rfl, ?_⟩
        have : (1000000000 : Int) ^ n * (a.getD n 0 + 1) <= 1000000000 ^ n * b.getD n 0 := Int.mul_le_mul_of_nonneg_left (by omega) (by omega)
        rw [Int.mul_add, Int.mul_one] at this
        omega
      · rw [if_neg h1]
        by_cases h2 : b.getD n 0 < a.getD n 0
        · rw [if_pos h2]
          refine .inr (.inr ⟨rfl, ?_⟩)
          have : (1000000000 : Int) ^ n * (b.getD n 0 + 1) <= 1000000000 ^ n * a.getD n 0 := Int.mul_le_mul_of_nonneg_left (by omega) (by omega)
          rw [Int.mul_add, Int.mul_one] at this
          omega
        · rw [if_neg h2]
          have he : a.getD n 0 = b.getD n 0 := by omega
          rw [e1, e2, he]
          rcases i with ⟨h, h'⟩ | ⟨h, h'⟩ | ⟨h, h'⟩
          · exact .inl ⟨h, by omega⟩
          · exact .inr (.inl ⟨h, by omega⟩)
          · exact .inr (.inr ⟨h, by omega⟩)
  intro a b hl la lb
  exact key _ a b rfl hl.symm la lb
theorem canon_len {a b : List Int} (ha : Canon a) (hb : Canon b) (h : a.length < b.length) : val a < val b := by
  have h1 := val_lt ha.1
  have hb0 : b ≠ [] := by intro e; subst e; simp at h
  obtain ⟨n, hn⟩ : ∃ n, b.length = n + 1 := ⟨b.length - 1, by omega⟩
  have eb : b = b.take n ++ [b.getD n 0] := by
    have : b.take (n + 1) = b := List.take_of_length_le (by omega)
    conv => lhs; rw [<- this]
    rw [List.take_add_one, List.getD_eq_getElem?_getD, List.getElem?_eq_getElem (by omega)]; rfl
  have hlast : b.getD n 0 ≠ 0 := by
    have := hb.2
    rw [eb] at this
    simpa using this
  have hp := hb.1.getD n
  have ltb : (b.take n).length = n := by simp; omega
  have e2 : val b = val (b.take n) + 1000000000 ^ n * b.getD n 0 := by conv => lhs; rw [eb, val_snoc, ltb]
  have v0 := val_nonneg (hb.1.take n)
  have p1 : (1000000000 : Int) ^ n * 1 <= 1000000000 ^ n * b.getD n 0 := Int.mul_le_mul_of_nonneg_left (by omega) (Int.le_of_lt (Int.pow_pos (by decide)))
  have p2 : (1000000000 : Int) ^ a.length <= 1000000000 ^ n := by
    have : (1000000000 : Nat) ^ a.length <= 1000000000 ^ n := Nat.pow_le_pow_right (by decide) (by omega)
    have := Int.ofNat_le.2 this
    simpa using this
  omega
theorem cmpL_val {a b : List Int} (ha : Canon a) (hb : Canon b) : (cmpL a b = -1 /\ val a < val b) ∨ (cmpL a b = 0 /\ val a = val b) ∨ (cmpL a b = 1 /\ val b < val a) := by
  unfold cmpL
  by_cases h1 : a.length < b.length
  · rw [if_pos h1]; exact .inl ⟨rfl, canon_len ha hb h1⟩
  · rw [if_neg h1]
    by_cases h2 : b.length < a.length
    · rw [if_pos h2]; exact .inr (.inr ⟨rfl, canon_len hb ha h2⟩)
    · rw [if_neg h2]
      exact lex_val a b (by omega) ha.1 hb.1
end Go.Proofs.YtbgokfhcgcoipaaGreatDoor
namespace Go.Proofs.YtbgokfhcgcoipaaGreatDoor
open Go Go.Proofs.YtbgokfhcgcoipaaGreatDoor.Sx
theorem sliceT_int : sliceT P T_s_int T_int (.int .i64 0) 1 8 := ⟨by kernel_rfl, by kernel_rfl, rfl, by decide⟩
theorem run_append_none {P : Program} (w : World) (base : Nat) (t ty e : TypeId) (i : TypeInfo) (size : Nat) (ht : P.underlying t = some (.slice e)) (hi : P.info? e = some i)
    (v : Value) (n c : Nat) (xs : List Value) (hown : w.ownsRow base e size v n xs) :
    (Builtin.append_ #[t, t] ty #[v, .slice none 0 c]).run P w = .ok v w := by
  rcases hown.2 with ⟨rfl, rfl⟩ | ⟨g, cap, cur, rfl, _, _, hnc, _⟩
  · simp [Builtin.append_, run_underlying ht, sizeOf, typeInfo, hi, Builtin.lenOf, Builtin.firstCells]
  · simp [Builtin.append_, run_underlying ht, sizeOf, typeInfo, hi, Builtin.lenOf, Builtin.firstCells, hnc, storeCells]
theorem Sx.Own.appendI {w : World} {base : Nat} {p q : Option Addr} {n c m d : Nat} {zs ys : List Int} (h : Own w base T_int 1 p n c (zs.map (Value.int .i64))) (hb : base <= w.heap.size) (k : IntsR w q m d ys) (hn : n + m <= 100000000) :
    ∃ p' c' w', Appends P [T_s_int, T_s_int] [.slice p n c, .slice q m d] (.slice p' (n + m) c') w w' /\ Own w' base T_int 1 p' (n + m) c' ((zs ++ ys).map (Value.int .i64)) /\
      (∀ w0, Ext w0 w -> w0.heap.size <= base -> Ext w0 w') := by
  obtain ⟨hu, hi, hz, hs⟩ := sliceT_int
  cases hinf : P.info? T_int with
  | none => rw [hinf] at hi; cases hi
  | some i =>
    rw [hinf] at hi
    simp only [Option.map_some, Option.some.injEq, Prod.mk.injEq] at hi
    cases q with
    | none =>
      have hm : m = 0 := by
        rcases Nat.eq_zero_or_pos m with h0 | h0
        · exact h0
        · obtain ⟨b, off, hp, _⟩ := k.2.2.2 h0; cases hp
      subst hm
      have : ys = [] := List.eq_nil_of_length_eq_zero k.1
      subst this
      exact ⟨p, c, w, run_append_none w base T_s_int 0 T_int i 1 hu hinf _ n d _ h, by simpa using h, fun w0 h _ => h⟩
    | some a =>
      have hcells : ∀ j u, (ys.map (Value.int .i64))[j]? = some u -> w.cell? (a.add j) = some u := by
        intro j u hj
        have hl : j < m := by
          have := (List.getElem?_eq_some_iff.1 hj).1
          rw [List.length_map, k.1] at this; exact this
        obtain ⟨b, off, hp, hseg⟩ := k.2.2.2 (by omega)
        cases hp
        rw [addr_add]
        exact hseg j u hj
      have hmax : n + m <= maxLen := by simp only [maxLen]; omega
      obtain ⟨v', w', hrun, hown, hgr, _⟩ := run_append_own (P := P) w base T_s_int 0 T_int i (.int .i64 0) 1 8 hu hinf hi.1 hi.2.1 hi.2.2 hz hs (.slice p n c) n (zs.map (Value.int .i64)) h a m d (ys.map (Value.int .i64)) (by simp [k.1])
        hcells (by simp [Value.oneCell']) hmax (by omega) hb
      have hlt := World.ownsRow.lt h
      have hv : ∃ p' c', v' = .slice p' (n + m) c' := by
        rcases hown.2 with ⟨e1, e2⟩ | ⟨g, cap, cur, e1, _⟩
        · exact ⟨none, 0, by rw [e1, e2]⟩
        · exact ⟨_, _, e1⟩
      obtain ⟨p', c', rfl⟩ := hv
      have hob : (Value.slice p n c).ownBlock = p.map (·.block) := by cases p <;> rfl
      refine ⟨p', c', w', hrun, by rw [List.map_append]; exact hown, fun w0 hx hb0 => ?_⟩
      refine hx.chg (S := (p.map (·.block)).toList) ⟨hgr.os, hgr.tape, hgr.output, hgr.size, fun k hk hn => hgr.block k hk ?_⟩ ?_
      · rw [hob]; intro e; rw [<- e] at hn; simp at hn
      · intro x hx'
        have := (hlt x (by rw [hob]; cases p <;> simp_all)).1
        omega
theorem Sx.Own.push {w w1 : World} {base : Nat} {p : Option Addr} {n c r : Nat} {zs : List Int} {x : Int} (h : Own w base T_int 1 p n c (zs.map (Value.int .i64))) (hb : base <= w.heap.size) (hn : New w (.cells ⟨[.int .i64 x]⟩ T_int (0, 0)) r w1) (hlen : n <= 99999999) :
    ∃ p' c' w', Appends P [T_s_int, T_s_int] [.slice p n c, .slice (some ⟨r, 0, none⟩) 1 1] (.slice p' (n + 1) c') w1 w' /\ Own w' base T_int 1 p' (n + 1) c' ((zs ++ [x]).map (Value.int .i64)) /\
      (∀ w0, Ext w0 w -> w0.heap.size <= base -> Ext w0 w') := by
  obtain ⟨p', c', w', h1, h2, h3⟩ := Own.appendI (h.ext hn.ext) (by have := hn.ext.le; omega) (q := some ⟨r, 0, none⟩) (m := 1) (d := 1) (ys := [x]) ⟨rfl, Nat.le_refl _, by omega, fun _ => ⟨r, 0, rfl, hn.blk.seg⟩⟩ (by omega)
  exact ⟨p', c', w', h1, h2, fun w0 hx hb0 => h3 w0 (hx.trans hn.ext) hb0⟩
theorem Sx.Own.fresh {w w1 : World} {r : Nat} (hn : New w (.cells ⟨[]⟩ T_int (0, 0)) r w1) : Own w1 w.heap.size T_int 1 (some ⟨r, 0, none⟩) 0 0 (([] : List Int).map (Value.int .i64)) :=
  Own.of_blk (n := 0) hn.blk (by rw [hn.r_eq]; exact Nat.le_refl _) rfl (by simp [maxLen])
theorem Sx.Own.sub {w : World} {base : Nat} {p : Option Addr} {n c m : Nat} {zs : List Int} (h : Own w base T_int 1 p n c (zs.map (Value.int .i64))) (hm : m <= n) : Own w base T_int 1 p m c ((zs.take m).map (Value.int .i64)) := by
  have hl := h.1
  simp only [List.length_map, Nat.mul_one] at hl
  refine ⟨by simp; omega, ?_⟩
  rcases h.2 with ⟨h1, h2⟩ | ⟨g, cap, cur, h1, h2, h3, h4, h5, h6, h7⟩
  · simp only [Value.slice.injEq] at h1
    left
    exact ⟨by rw [h1.1, h1.2.2, show m = 0 by omega], by omega⟩
  · simp only [Value.slice.injEq] at h1
    right
    refine ⟨g, cap, cur, by rw [h1.1, h1.2.2], h2, h3, by omega, h5, h6, ?_⟩
    rw [List.map_take, <- h7, List.take_take]
    congr 1
    omega
theorem Sx.IntsR.sub {w : World} {p : Option Addr} {n c m : Nat} {zs : List Int} (h : IntsR w p n c zs) (hm : m <= n) : IntsR w p m c (zs.take m) :=
  ⟨by simp [h.1]; omega, by have := h.2.1; omega, h.2.2.1, fun h0 => let ⟨b, off, hp, hs⟩ := h.2.2.2 (by omega); ⟨b, off, hp, by rw [List.map_take]; exact hs.take m⟩⟩
theorem sub0 (p : Option Addr) (c : Nat) : Sx.sub p 0 c 1 = p := by
  unfold Sx.sub
  split
  · rfl
  · cases p <;> simp [Addr.add]
theorem spec_l02Trim_c {w : World} {p : Option Addr} {n c : Nat} {zs : List Int} (h : IntsR w p n c zs) : Ret P n_spec_l02Trim [.slice p n c] w fun v w' => v = .slice p (trimL zs).length c /\ w' = w /\ IntsR w p (trimL zs).length c (trimL zs) := by
  refine spec_l02Trim_ret ?_
  unfold spec_l02Trim
  have hlen := h.1; have hcap := h.2.1; have hcm := h.2.2.1
  have fin : ∀ k : Nat, k <= n -> trimL zs = zs.take k -> (trimL zs).length = k /\ IntsR w p (trimL zs).length c (trimL zs) := fun k hk e => by
    have : (trimL zs).length = k := by rw [e]; simp; omega
    exact ⟨this, by rw [this, e]; exact h.sub hk⟩
  refine ⟨fun i wr => ∃ k : Nat, i = k /\ k <= n /\ wr = w /\ trimL zs = trimL (zs.take k), fun i _ => i.toNat, ⟨n, rfl, Nat.le_refl _, rfl, by rw [List.take_of_length_le (by omega)]⟩, ?_⟩
  intro junk wr i ⟨k, hik, hk, hw, ht⟩
  subst hik; subst hw
  refine ifD (fun hpos => ?_) (fun h0 => ifF ?_)
  · obtain ⟨a, rfl, hl⟩ := ints_at h (i := (k : Int) - 1) (by omega) (by omega)
    have e : ((k : Int) - 1).toNat = k - 1 := by omega
    have ek : k = (k - 1) + 1 := by omega
    have htk := trimL_take (l := zs) (k := k - 1) (by omega)
    rw [<- ek] at htk
    refine exW ⟨by omega, by omega⟩ ⟨⟨by omega, by omega⟩, _, hl, ifD (fun hz => ?_) (fun hz => ?_)⟩
    · rw [e] at hz
      rw [if_pos hz] at htk
      exact exW ⟨by omega, by omega⟩ ⟨⟨k - 1, by omega, by omega, rfl, ht.trans htk⟩, by show ((k : Int) - 1).toNat < (k : Int).toNat; omega⟩
    · rw [e] at hz
      rw [if_neg hz] at htk
      obtain ⟨f1, f2⟩ := fin k hk (ht.trans htk)
      refine ⟨⟨by omega, by omega⟩, ?_, rfl, f2⟩
      rw [sub0, f1]; rfl
  · obtain ⟨f1, f2⟩ := fin 0 (by omega) (by rw [ht, show k = 0 by omega]; rfl)
    refine ⟨⟨by omega, by omega⟩, ?_, rfl, f2⟩
    rw [sub0, f1, show k = 0 by omega]; rfl
theorem impl_trim_c {w : World} {p : Option Addr} {n c : Nat} {zs : List Int} (h : IntsR w p n c zs) : Ret P n_impl_trim [.slice p n c] w fun v w' => v = .slice p (trimL zs).length c /\ w' = w /\ IntsR w p (trimL zs).length c (trimL zs) := by
  refine impl_trim_ret ?_
  unfold impl_trim
  have hlen := h.1; have hcap := h.2.1; have hcm := h.2.2.1
  have fin : ∀ k : Nat, k <= n -> trimL zs = zs.take k -> (trimL zs).length = k /\ IntsR w p (trimL zs).length c (trimL zs) := fun k hk e => by
    have : (trimL zs).length = k := by rw [e]; simp; omega
    exact ⟨this, by rw [this, e]; exact h.sub hk⟩
  refine ⟨fun q k d wr => q = p /\ d = c /\ k <= n /\ wr = w /\ trimL zs = trimL (zs.take k), fun _ k _ _ => k, ⟨rfl, rfl, Nat.le_refl _, rfl, by rw [List.take_of_length_le (by omega)]⟩, ?_⟩
  intro junk wr q k d ⟨hq, hd, hk, hw, ht⟩
  subst hq; subst hd; subst hw
  refine ifD (fun hpos => ?_) (fun h0 => ifF ?_)
  · obtain ⟨a, rfl, hl⟩ := ints_at h (i := (k : Int) - 1) (by omega) (by omega)
    have e : ((k : Int) - 1).toNat = k - 1 := by omega
    have ek : k = (k - 1) + 1 := by omega
    have htk := trimL_take (l := zs) (k := k - 1) (by omega)
    rw [<- ek] at htk
    refine exW ⟨by omega, by omega⟩ ⟨⟨by omega, by omega⟩, _, hl, ifD (fun hz => ?_) (fun hz => ?_)⟩
    · rw [e] at hz
      rw [if_pos hz] at htk
      refine exW ⟨by omega, by omega⟩ ⟨⟨by omega, by omega⟩, ⟨sub0 _ _, rfl, by omega, rfl, ?_⟩, by show ((k : Int) - 1).toNat - 0 < k; omega⟩
      rw [e]; exact ht.trans htk
    · rw [e] at hz
      rw [if_neg hz] at htk
      obtain ⟨f1, f2⟩ := fin k hk (ht.trans htk)
      exact ⟨by rw [f1], rfl, f2⟩
  · obtain ⟨f1, f2⟩ := fin 0 (by omega) (by rw [ht, show k = 0 by omega]; rfl)
    exact ⟨by rw [f1, show k = 0 by omega], rfl, f2⟩
def capL (l : List Int) : List Int := if l.length <= 50 then l else []
theorem spec_l02Cap_c {w : World} {p : Option Addr} {n c : Nat} {zs : List Int} (h : IntsR w p n c zs) : Ret P n_spec_l02Cap [.slice p n c] w fun v w' => ∃ p' n' c', v = .slice p' n' c' /\ w' = w /\ IntsR w p' n' c' (capL (trimL zs)) := by
  refine spec_l02Cap_ret ?_
  unfold spec_l02Cap
  refine Ret.at (spec_l02Trim_c h) ?_
  rintro v w1 ⟨hv, hw, hr⟩
  subst hv; subst hw
  refine ⟨_, _, _, rfl, ifD (fun hgt => ?_) (fun hle => ?_)⟩
  · exact ⟨none, 0, 0, rfl, rfl, by rw [capL, if_neg (by omega)]; exact IntsR.nil _ _ (by omega)⟩
  · exact ⟨_, _, _, rfl, rfl, by rw [capL, if_pos (by omega)]; exact hr⟩
theorem impl_natCopy_c {w : World} {p : Option Addr} {n c : Nat} {zs : List Int} (h : IntsR w p n c zs) (hn : n <= 100000000) : Ret P n_impl_natCopy [.slice p n c] w fun v w' => ∃ p' c', v = .slice p' n c' /\ Own w' w.heap.size T_int 1 p' n c' (zs.map (Value.int .i64)) /\ Ext w w' := by
  refine impl_natCopy_ret ?_
  unfold impl_natCopy
  intro r w1 hn1
  obtain ⟨p', c', w', h1, h2, h3⟩ := Own.appendI (Own.fresh hn1) hn1.ext.le (h.ext hn1.ext) (by omega)
  rw [Nat.zero_add] at h1 h2
  exact ⟨_, _, _, _, h1, _, _, rfl, by simpa using h2, h3 w hn1.ext (Nat.le_refl _)⟩
end Go.Proofs.YtbgokfhcgcoipaaGreatDoor
namespace Go.Proofs.YtbgokfhcgcoipaaGreatDoor
open Go Go.Proofs.YtbgokfhcgcoipaaGreatDoor.Sx
theorem tmod_limb {t : Int} (h : 0 <= t) : Int.tmod t 1000000000 = t % 1000000000 := Int.tmod_eq_emod_of_nonneg h
theorem tdiv_limb {t : Int} (h : 0 <= t) : Int.tdiv t 1000000000 = t / 1000000000 := Int.tdiv_eq_ediv_of_nonneg h
theorem add_step {a b o : List Int} {k : Nat} {carry t : Int} (hl : o.length = k) (hv : val o + 1000000000 ^ k * carry = val (a.take k) + val (b.take k)) (ht : t = carry + a.getD k 0 + b.getD k 0) :
    val (o ++ [t % 1000000000]) + 1000000000 ^ (k + 1) * (t / 1000000000) = val (a.take (k + 1)) + val (b.take (k + 1)) := by
  rw [val_snoc, hl, val_take_succ, val_take_succ, Int.pow_succ, Int.mul_assoc]
  have e : (1000000000 : Int) ^ k * (t % 1000000000) + 1000000000 ^ k * (1000000000 * (t / 1000000000)) = 1000000000 ^ k * t := by
    rw [<- Int.mul_add]; congr 1; omega
  have e2 : (1000000000 : Int) ^ k * t = 1000000000 ^ k * carry + 1000000000 ^ k * a.getD k 0 + 1000000000 ^ k * b.getD k 0 := by
    rw [ht, Int.mul_add, Int.mul_add]
  omega
theorem limb_mod (t : Int) : 0 <= t % 1000000000 /\ t % 1000000000 < 1000000000 := by omega
theorem Limbs.snoc {o : List Int} {x : Int} (h : Limbs o) (hx : 0 <= x /\ x < 1000000000) : Limbs (o ++ [x]) := Limbs.append.2 ⟨h, Limbs.cons.2 ⟨hx, Limbs.nil⟩⟩
def AddInv (w : World) (a b : List Int) (p : Option Addr) (n c : Nat) (carry i : Int) (wr : World) : Prop :=
 ∃ (k : Nat) (o : List Int), i = k /\ n = k /\ k <= a.length + b.length /\ Own wr w.heap.size T_int 1 p n c (o.map (Value.int .i64)) /\ Ext w wr /\ Limbs o /\ o.length = k /\ 0 <= carry /\ carry <= 1 /\ val o + 1000000000 ^ k * carry = val (a.take k) + val (b.take k)
theorem impl_natAdd_c {w : World} {p q : Option Addr} {n c m d : Nat} {a b : List Int} (h : IntsR w p n c a) (k : IntsR w q m d b) (ha : Limbs a) (hb : Limbs b) (hn : n <= 10000000) (hm : m <= 10000000) :
    Ret P n_impl_natAdd [.slice p n c, .slice q m d] w fun v w' => ∃ p' n' c', v = .slice p' n' c' /\ Own w' w.heap.size T_int 1 p' n' c' ((digs (val a + val b).toNat).map (Value.int .i64)) /\ Ext w w' := by
  refine impl_natAdd_ret ?_
  unfold impl_natAdd
  have hla := h.1; have hlb := k.1
  obtain ⟨M, hM⟩ : ∃ M : Nat, M = max n m := ⟨_, rfl⟩
  have e12 : (if ((m : Nat) : Int) > ((n : Nat) : Int) then ((m : Nat) : Int) else ((n : Nat) : Int)) = M := by split <;> omega
  refine ⟨_, rfl, ?_⟩
  rw [e12]
  refine exW ⟨by omega, by omega⟩ ⟨⟨by omega, by omega, by omega⟩, fun r w1 hn1 => ?_⟩
  refine ⟨AddInv w a b, fun _ _ _ _ i _ => M + 1 - i.toNat, ⟨0, [], rfl, rfl, by omega, ?_, hn1.ext, Limbs.nil, rfl, by omega, by omega, by simp [val]⟩, ?_⟩
  · exact Own.of_blk0 (n := ((M : Int) + 1).toNat) hn1.blk (by rw [hn1.r_eq]; exact Nat.le_refl _) (by simp [zeroRow]) (by simp only [maxLen]; omega)
  intro junk wr op on oc carry i ⟨j, o, hi, hon, hkl, hown, hx, hlo, hol, hc0, hc1, hv⟩
  subst hi; subst hon
  have A := ha.getD on; have B := hb.getD on
  have ab : (on : Int) < n ∨ a.getD on 0 = 0 := by
    by_cases e : on < n
    · left; omega
    · right; exact getD_beyond (by omega)
  have bb : (on : Int) < m ∨ b.getD on 0 = 0 := by
    by_cases e : on < m
    · left; omega
    · right; exact getD_beyond (by omega)
  have J1 : ∀ t, t = carry + a.getD on 0 + b.getD on 0 -> (on : Int) < M -> impl_natAdd_j1 wr (AddInv w a b) (fun _ _ _ _ i _ => M + 1 - i.toNat) op on oc carry on t wr fun v w' => ∃ p' n' c', v = .slice p' n' c' /\ Own w' w.heap.size T_int 1 p' n' c' ((digs (val a + val b).toNat).map (Value.int .i64)) /\ Ext w w' := by
    intro t ht hlt
    unfold impl_natAdd_j1
    refine ⟨by decide, _, rfl, fun r1 w2 hn2 => ?_⟩
    rw [tmod_limb (by omega)] at hn2
    obtain ⟨p', c', w3, h1, h2, h3⟩ := Own.push hown hx.le hn2 (by omega)
    refine ⟨_, _, _, _, h1, by decide, ?_⟩
    rw [tdiv_limb (by omega)]
    refine exW ⟨by omega, by omega⟩ (exW ⟨by omega, by omega⟩ ⟨⟨on + 1, o ++ [t % 1000000000], by omega, rfl, by omega, h2, h3 w hx (Nat.le_refl _), hlo.snoc (limb_mod t), by simp [hol], by omega, by omega, add_step hol hv ht⟩, ?_⟩)
    show M + 1 - ((on : Int) + 1).toNat < M + 1 - (on : Int).toNat
    omega
  have J0 : ∀ t, t = carry + a.getD on 0 -> (on : Int) < M -> impl_natAdd_j0 q m wr (AddInv w a b) (fun _ _ _ _ i _ => M + 1 - i.toNat) op on oc carry on t wr fun v w' => ∃ p' n' c', v = .slice p' n' c' /\ Own w' w.heap.size T_int 1 p' n' c' ((digs (val a + val b).toNat).map (Value.int .i64)) /\ Ext w w' := by
    intro t ht hlt
    unfold impl_natAdd_j0
    refine ifD (fun hlm => ?_) (fun hge => J1 _ (by rw [bb.resolve_left hge]; omega) hlt)
    obtain ⟨ad, rfl, hl⟩ := ints_at (k.ext hx) (i := (on : Int)) (by omega) hlm
    exact ⟨⟨by omega, by omega⟩, _, hl, exW ⟨by simp only [Int.toNat_natCast]; omega, by simp only [Int.toNat_natCast]; omega⟩ (J1 _ (by simp only [Int.toNat_natCast]; omega) hlt)⟩
  refine ⟨_, rfl, ?_⟩
  refine ifD (fun hlt => ifD (fun hln => ?_) (fun hge => J0 _ (by rw [ab.resolve_left hge]; omega) hlt)) (fun hge => ?_)
  · obtain ⟨ad, rfl, hl⟩ := ints_at (h.ext hx) (i := (on : Int)) (by omega) hln
    exact ⟨⟨by omega, by omega⟩, _, hl, exW ⟨by simp only [Int.toNat_natCast]; omega, by simp only [Int.toNat_natCast]; omega⟩ (J0 _ (by simp only [Int.toNat_natCast]) hlt)⟩
  · intro r2 w2 hn2
    have hk : on <= 20000000 := by omega
    obtain ⟨p', c', w3, h1, h2, h3⟩ := Own.push hown hx.le hn2 (by omega)
    refine ⟨_, _, _, _, h1, ?_⟩
    have hlim : Limbs (o ++ [carry]) := hlo.snoc (by omega)
    have hval : val (o ++ [carry]) = val a + val b := by
      rw [val_snoc, hol, hv, List.take_of_length_le (by omega), List.take_of_length_le (by omega)]
    refine Ret.at (impl_trim_c h2.ints) ?_
    rintro v w4 ⟨hv4, hw4, hr4⟩
    subst hv4; subst hw4
    refine ⟨_, _, _, rfl, _, _, _, rfl, ?_, h3 w hx (Nat.le_refl _)⟩
    have e := trimL_eq hlim
    rw [hval] at e
    rw [<- e]
    have hle := trimL_len (o ++ [carry])
    have := h2.sub (m := (trimL (o ++ [carry])).length) (by simp [hol] at hle ⊢; omega)
    rwa [<- trimL_prefix] at this
theorem sub_step {a b o : List Int} {k : Nat} {less t u less' : Int} (hl : o.length = k) (hv : val o - 1000000000 ^ k * less = val (a.take k) - val (b.take k)) (ht : t = a.getD k 0 - less - b.getD k 0) (hu : u = t + 1000000000 * less') :
    val (o ++ [u]) - 1000000000 ^ (k + 1) * less' = val (a.take (k + 1)) - val (b.take (k + 1)) := by
  rw [val_snoc, hl, val_take_succ, val_take_succ, Int.pow_succ, Int.mul_assoc]
  have e2 : (1000000000 : Int) ^ k * u = 1000000000 ^ k * a.getD k 0 - 1000000000 ^ k * less - 1000000000 ^ k * b.getD k 0 + 1000000000 ^ k * (1000000000 * less') := by
    rw [hu, ht, Int.mul_add, Int.mul_sub, Int.mul_sub]
  omega
theorem sub_end {a b o : List Int} {less : Int} (hlo : Limbs o) (ho : o.length = a.length) (hbl : b.length <= a.length) (hab : val b <= val a) (h0 : 0 <= less) (h1 : less <= 1)
    (hv : val o - 1000000000 ^ a.length * less = val (a.take a.length) - val (b.take a.length)) : val o = val a - val b := by
  rw [List.take_of_length_le (Nat.le_refl _), List.take_of_length_le hbl] at hv
  have h := val_lt hlo
  rw [ho] at h
  have : less = 0 ∨ less = 1 := by omega
  rcases this with e | e
  · subst e; omega
  · subst e; omega
theorem impl_natSub_c {w : World} {p q : Option Addr} {n c m d : Nat} {a b : List Int} (h : IntsR w p n c a) (k : IntsR w q m d b) (ha : Limbs a) (hb : Limbs b) (hn : n <= 10000000) (hbl : m <= n) (hab : val b <= val a) :
    Ret P n_impl_natSub [.slice p n c, .slice q m d] w fun v w' => ∃ p' n' c', v = .slice p' n' c' /\ Own w' w.heap.size T_int 1 p' n' c' ((digs (val a - val b).toNat).map (Value.int .i64)) /\ Ext w w' := by
  refine impl_natSub_ret ?_
  unfold impl_natSub
  have hla := h.1; have hlb := k.1
  refine ⟨⟨by omega, by omega, by omega⟩, fun r w1 hn1 => ?_⟩
  have hre := hn1.r_eq
  let Inv : Int -> Int -> World -> Prop := fun less i wr => ∃ (j : Nat) (o : List Int), i = j /\ j <= n /\ Blk wr r T_int (o.map (Value.int .i64) ++ List.replicate (n - j) (Value.int .i64 0)) /\ Ext w wr /\ Limbs o /\ o.length = j /\ 0 <= less /\ less <= 1 /\ val o - 1000000000 ^ j * less = val (a.take j) - val (b.take j)
  refine ⟨Inv, fun _ i _ => n - i.toNat, ⟨0, [], rfl, by omega, ?_, hn1.ext, Limbs.nil, rfl, by omega, by omega, by simp [val]⟩, ?_⟩
  · have := hn1.blk
    rw [zeroRow_int, Nat.mul_one] at this
    simpa using this
  intro junk wr less i ⟨j, o, hi, hjn, hblk, hx, hlo, hol, hc0, hc1, hv⟩
  subst hi
  have A := ha.getD j; have B := hb.getD j
  have bb : (j : Int) < m ∨ b.getD j 0 = 0 := by
    by_cases e : j < m
    · left; omega
    · right; exact getD_beyond (by omega)
  have J1 : ∀ l' u, (j : Int) < n -> u = a.getD j 0 - less - b.getD j 0 + 1000000000 * l' -> 0 <= u -> u < 1000000000 -> 0 <= l' -> l' <= 1 ->
      impl_natSub_j1 n r wr Inv (fun _ i _ => n - i.toNat) less j l' u wr fun v w' => ∃ p' n' c', v = .slice p' n' c' /\ Own w' w.heap.size T_int 1 p' n' c' ((digs (val a - val b).toNat).map (Value.int .i64)) /\ Ext w w' := by
    intro l' u hlt hu h0 h1 h2 h3
    unfold impl_natSub_j1
    have hlen : (o.map (Value.int .i64) ++ List.replicate (n - j) (Value.int .i64 0)).length = n := by simp [hol]; omega
    obtain ⟨w2, hst, hb2, hc, hs⟩ := hblk.store (P := P) (t := T_int) (k := j) (v := .int .i64 u) (by kernel_rfl) (by omega) rfl
    refine ⟨⟨by omega, by omega⟩, w2, by simpa using hst, exW ⟨by omega, by omega⟩ ⟨⟨j + 1, o ++ [u], by omega, by omega, ?_, hx.chg hc (by simp; omega), hlo.snoc ⟨h0, h1⟩, by simp [hol], h2, h3, sub_step hol hv rfl hu⟩, ?_⟩⟩
    · rw [List.set_append_right _ _ (by simp [hol]), List.length_map, hol, Nat.sub_self] at hb2
      obtain ⟨z, hz⟩ : ∃ z, n - j = z + 1 := ⟨n - j - 1, by omega⟩
      rw [hz, List.replicate_succ, List.set_cons_zero] at hb2
      rw [show n - (j + 1) = z by omega]
      simpa using hb2
    · show n - ((j : Int) + 1).toNat < n - (j : Int).toNat
      omega
  have J0 : ∀ t, (j : Int) < n -> t = a.getD j 0 - less - b.getD j 0 ->
      impl_natSub_j0 n r wr Inv (fun _ i _ => n - i.toNat) less j t wr fun v w' => ∃ p' n' c', v = .slice p' n' c' /\ Own w' w.heap.size T_int 1 p' n' c' ((digs (val a - val b).toNat).map (Value.int .i64)) /\ Ext w w' := by
    intro t hlt ht
    unfold impl_natSub_j0
    exact ifD (fun hneg => exW ⟨by omega, by omega⟩ (J1 1 _ hlt (by omega) (by omega) (by omega) (by omega) (by omega))) (fun hpos => J1 0 _ hlt (by omega) (by omega) (by omega) (by omega) (by omega))
  refine ifD (fun hlt => ?_) (fun hge => ?_)
  · obtain ⟨ad, rfl, hl⟩ := ints_at (h.ext hx) (i := (j : Int)) (by omega) hlt
    refine ⟨⟨by omega, by omega⟩, _, hl, exW ⟨by simp only [Int.toNat_natCast]; omega, by simp only [Int.toNat_natCast]; omega⟩ (ifD (fun hlm => ?_) (fun hge => J0 _ hlt (by simp only [Int.toNat_natCast]; rw [bb.resolve_left hge]; omega)))⟩
    obtain ⟨ad2, rfl, hl2⟩ := ints_at (k.ext hx) (i := (j : Int)) (by omega) hlm
    exact ⟨⟨by omega, by omega⟩, _, hl2, exW ⟨by simp only [Int.toNat_natCast]; omega, by simp only [Int.toNat_natCast]; omega⟩ (J0 _ hlt (by simp only [Int.toNat_natCast]))⟩
  · have hjn' : j = n := by omega
    subst hjn'
    rw [Nat.sub_self, List.replicate_zero, List.append_nil] at hblk
    have hown : Own wr w.heap.size T_int 1 (some ⟨r, 0, none⟩) j j (o.map (Value.int .i64)) := Own.of_blk hblk (by omega) (by simp [hol]) (by simp only [maxLen]; omega)
    rw [<- hla] at hv
    have hval := sub_end hlo (by omega) (by omega) hab hc0 hc1 hv
    refine Ret.at (impl_trim_c hown.ints) ?_
    rintro v w4 ⟨hv4, hw4, hr4⟩
    subst hv4; subst hw4
    refine ⟨_, _, _, rfl, _, _, _, rfl, ?_, hx⟩
    have e := trimL_eq hlo
    rw [hval] at e
    rw [<- e]
    have hle := trimL_len o
    have := hown.sub (m := (trimL o).length) (by omega)
    rwa [<- trimL_prefix] at this
end Go.Proofs.YtbgokfhcgcoipaaGreatDoor
namespace Go.Proofs.YtbgokfhcgcoipaaGreatDoor
open Go Go.Proofs.YtbgokfhcgcoipaaGreatDoor.Sx
def mkS (neg : Bool) (m : List Int) : List D0 := [.bool (neg && !m.isEmpty), .ints m]
def enc (z : Int) : List D0 := [.bool (decide (z < 0)), .ints (digs z.natAbs)]
def ival : List D0 -> Int
  | [.bool b, .ints z] => if b then - val z else val z
  | _ => 0
def icap (z : Int) : List D0 := mkS (decide (z < 0)) (capL (digs z.natAbs))
theorem isEmpty_digs {n : Nat} : (digs n).isEmpty = decide (n = 0) := by
  cases h : (digs n) with
  | nil => simp [digs_nil.1 h]
  | cons a r =>
    have : n ≠ 0 := fun e => by rw [digs_nil.2 e] at h; cases h
    simp [this]
theorem mkS_pos (n : Nat) : mkS false (digs n) = enc n := by
  simp [mkS, enc] <;> omega
theorem mkS_neg (n : Nat) : mkS true (digs n) = enc (-n) := by
  simp only [mkS, enc, isEmpty_digs, Bool.true_and, Int.natAbs_neg, Int.natAbs_natCast]
  by_cases h : n = 0
  · subst h; simp
  · simp [h]; omega
theorem enc_code (z : Int) : (enc z).map D0.code = [.bool, .ints] := rfl
theorem ival_enc (z : Int) : ival (enc z) = z := by
  simp only [ival, enc, val_digs]
  by_cases h : z < 0
  · simp [h]; omega
  · simp [h]; omega
theorem intOk_enc {d : List D0} (h : intOk d = true) : d = enc (ival d) /\ ∃ b z, d = [.bool b, .ints z] /\ Canon z /\ z.length <= 50 := by
  match d, h with
  | [.bool b, .ints z], h =>
    simp only [intOk, Bool.and_eq_true, natOk_spec, Bool.or_eq_true, Bool.not_eq_true'] at h
    obtain ⟨⟨hc, hl⟩, hb⟩ := h
    refine ⟨?_, b, z, rfl, hc, hl⟩
    have hv := val_nonneg hc.1
    have hd := digs_val hc
    cases b with
    | false =>
      simp only [ival, enc, Bool.false_eq_true, if_false]
      rw [show (val z).natAbs = (val z).toNat by omega, hd]
      have : ¬ val z < 0 := by omega
      simp [this]
    | true =>
      have hne : z ≠ [] := by
        rcases hb with hb | hb
        · cases hb
        · cases z with
          | nil => simp at hb
          | cons a r => simp
      have hp := canon_pos hc hne
      simp only [ival, enc, if_true]
      rw [show (-val z).natAbs = (val z).toNat by omega, hd]
      have : -val z < 0 := by omega
      simp [hp]
theorem isign_enc {z : Int} (h : intOk (enc z) = true) : isign (enc z) = if z < 0 then -1 else if z = 0 then 0 else 1 := by
  have h' := h
  unfold enc at h'
  unfold isign enc
  simp only [h', Bool.not_true, Bool.false_eq_true, if_false, isEmpty_digs]
  by_cases h1 : z < 0
  · have : z.natAbs ≠ 0 := by omega
    simp [h1]; omega
  · by_cases h2 : z = 0
    · simp [h2]
    · have : z.natAbs ≠ 0 := by omega
      simp [h1, h2]
theorem Sx.Owns.int2 {w : World} {B : Nat} {b : Bool} {p : Option Addr} {n c : Nat} {z : List Int} (h : Own w B T_int 1 p n c (z.map (Value.int .i64))) : Owns w B [.bool b, .slice p n c] [.bool b, .ints z] (p.map (·.block)).toList :=
  (Owns.bool w B b).append (Owns.ints h)
theorem nodup_opt (p : Option Addr) : ((p.map (·.block)).toList : List Nat).Nodup := by cases p <;> simp
theorem len_bool {z : List Int} {n : Nat} (h : z.length = n) : decide ((0 : Int) < (n : Nat)) = !z.isEmpty := intOk_len (b := true) h
theorem impl_signed_c {w : World} {neg : Bool} {p : Option Addr} {n c : Nat} {z : List Int} (hl : z.length = n) : Ret P n_impl_signed [.bool neg, .slice p n c] w fun v w' => v = .agg ⟨[.bool (neg && !z.isEmpty), .slice p n c]⟩ /\ Ext w w' := by
  refine impl_signed_ret ?_
  unfold impl_signed
  intro r w1 hn
  refine ⟨fun e => ?_, fun e => ?_⟩
  · obtain ⟨w2, st, hb, y⟩ := hn.fill (P := P) (t := T_impl_Signed) (xs := [.bool (decide ((0 : Int) < (n : Nat))), .slice p n c]) (by simp [Value.oneCell']) (by kernel_rfl) rfl
    exact ⟨w2, st, _, _, _, _, hb.loadA0 (by kernel_rfl), by rw [len_bool hl, e]; rfl, y⟩
  · obtain ⟨w2, st, hb, y⟩ := hn.fill (P := P) (t := T_impl_Signed) (xs := [.bool false, .slice p n c]) (by simp [Value.oneCell']) (by kernel_rfl) rfl
    exact ⟨w2, st, _, _, _, _, hb.loadA0 (by kernel_rfl), by rw [e]; rfl, y⟩
theorem impl_intAdd_c {w : World} {xs ys : List Value} {x y : Int} (h : Reps w xs (enc x)) (k : Reps w ys (enc y)) (hx : (digs x.natAbs).length <= 10000000) (hy : (digs y.natAbs).length <= 10000000) :
    Ret P n_impl_intAdd [.agg ⟨xs⟩, .agg ⟨ys⟩] w fun v w' => ∃ p n c, v = .agg ⟨[.bool (decide (x + y < 0)), .slice p n c]⟩ /\ Own w' w.heap.size T_int 1 p n c ((digs (x + y).natAbs).map (Value.int .i64)) /\ Ext w w' := by
  obtain ⟨a0, a1p, a1n, a1c, a1z, rfl, hd, ha⟩ := open_Signed h rfl
  obtain ⟨b0, b1p, b1n, b1c, b1z, rfl, he, hb⟩ := open_Signed k rfl
  simp only [enc, List.cons.injEq, D0.bool.injEq, D0.ints.injEq, and_true] at hd he
  obtain ⟨rfl, rfl⟩ := hd
  obtain ⟨rfl, rfl⟩ := he
  have la := ha.1; have lb := hb.1
  have ca := digs_canon x.natAbs; have cb := digs_canon y.natAbs
  have va := val_digs x.natAbs; have vb := val_digs y.natAbs
  refine impl_intAdd_ret ?_
  unfold impl_intAdd
  intro r w1 hn1 r1 w2 hn2 r2 w3 hn3
  have X := (hn1.ext.trans hn2.ext).trans hn3.ext
  have e1 := hn1.r_eq; have e2 := hn2.r_eq; have e3 := hn3.r_eq; have s1 := hn1.size; have s2 := hn2.size; have s3 := hn3.size
  have k0 := (hn1.blk.ext hn2.ext).ext hn3.ext; have k1 := hn2.blk.ext hn3.ext; have k2 := hn3.blk
  -- the end of every way: the sign, and what was added or subtracted
  have fin : ∀ (W : World) (neg : Bool) (p : Option Addr) (n c : Nat) (m : Nat), Own W w.heap.size T_int 1 p n c ((digs m).map (Value.int .i64)) -> Ext w W -> Blk W r2 T_impl_Signed [.bool false, .slice none 0 0] -> (∀ q, p.map (·.block) = some q -> q ≠ r2) -> m = (x + y).natAbs -> (m ≠ 0 -> neg = decide (x + y < 0)) ->
      Calls P n_impl_signed ⟨[.bool neg, .slice p n c]⟩ W fun e_1 wv_7 => ∃ (t170 : Bool) (t171_p : Option Addr) (t171_n : Nat) (t171_c : Nat), e_1 = .returned (.agg #[(.bool t170), (.slice t171_p t171_n t171_c)]) /\
        ∃ wv_8, Stores P T_impl_Signed ⟨r2, 0, none⟩ (.agg #[(.bool t170), (.slice t171_p t171_n t171_c)]) wv_7 wv_8 /\
        ∃ (r0 : Bool) (r1_p : Option Addr) (r1_n : Nat) (r1_c : Nat), Loads P T_impl_Signed ⟨r2, 0, none⟩ (.agg #[(.bool r0), (.slice r1_p r1_n r1_c)]) wv_8 /\ (fun (v : Value) (w' : World) => ∃ p n c, v = .agg ⟨[.bool (decide (x + y < 0)), .slice p n c]⟩ /\ Own w' w.heap.size T_int 1 p n c ((digs (x + y).natAbs).map (Value.int .i64)) /\ Ext w w') (.agg #[(.bool r0), (.slice r1_p r1_n r1_c)]) wv_8 := by
    intro W neg p n c m hown hX hk2 hq hm hs
    refine Ret.at (impl_signed_c hown.ints.1) ?_
    rintro v W2 ⟨hv, y2⟩
    subst hv
    obtain ⟨W3, st, hb3, ch, sz⟩ := (hk2.ext y2).storeA0 (P := P) (t := T_impl_Signed) (xs := [.bool (neg && !(digs m).isEmpty), .slice p n c]) (by kernel_rfl) rfl (by simp [Value.oneCell'])
    refine ⟨_, _, _, _, rfl, W3, st, _, _, _, _, hb3.loadA0 (by kernel_rfl), p, n, c, ?_, ?_, (hX.trans y2).chg ch (by simp; omega)⟩
    · rw [isEmpty_digs]
      by_cases h0 : m = 0
      · have : ¬ (x + y < 0) := by omega
        simp [h0, this]
      · simp [h0, hs h0]
    · rw [<- hm]
      exact (hown.ext y2).chg ch (fun q hq' => by simp only [List.mem_singleton]; exact hq q hq')
  have ne2 : ∀ {W : World} {B : Nat} {p : Option Addr} {n c : Nat} {zs : List Value}, Own W B T_int 1 p n c zs -> r2 < B -> ∀ q, p.map (·.block) = some q -> q ≠ r2 := fun ho hB q hq => by
    have := (World.ownsRow.lt ho q (by rw [<- hq]; rename_i p n c _; cases p <;> rfl)).1
    omega
  refine ⟨_, k0.load (by kernel_rfl) rfl, _, k1.load (by kernel_rfl) rfl, fun es => ?_, fun es => ?_⟩
  · have es' : decide (x < 0) = decide (y < 0) := by simpa using es
    have D := Ext.drew w3
    refine ⟨_, fun W hW => (k0.ext (D.trans hW)).load (by kernel_rfl) rfl, _, _, _, fun W hW => (k0.ext (D.trans hW)).load (by kernel_rfl) rfl, _, _, _, fun W hW => (k1.ext (D.trans hW)).load (by kernel_rfl) rfl, ?_⟩
    refine Ret.at (impl_natAdd_c (ha.ext (X.trans D)) (hb.ext (X.trans D)) ca.1 cb.1 (by omega) (by omega)) ?_
    rintro v w4 ⟨p, n, c, hv, hown, y4⟩
    subst hv
    rw [va, vb] at hown
    refine ⟨_, _, _, rfl, y4, fin w4 _ p n c _ (hown.mono ?_) ((X.trans D).trans y4) ((k2.ext D).ext y4) (ne2 hown ?_) ?_ ?_⟩
    · have := (X.trans D).le; omega
    · have := D.le; omega
    · by_cases hx0 : x < 0 <;> by_cases hy0 : y < 0 <;> simp [hx0, hy0] at es' <;> omega
    · intro h0
      by_cases hx0 : x < 0 <;> by_cases hy0 : y < 0 <;> simp [hx0, hy0] at es' ⊢ <;> omega
  · have es' : ¬ (decide (x < 0) = decide (y < 0)) := by simpa using es
    refine ⟨_, _, _, k0.load (by kernel_rfl) rfl, _, _, _, k1.load (by kernel_rfl) rfl, ?_⟩
    refine Ret.at (impl_natCmp_c (ha.ext X) (hb.ext X)) ?_
    rintro v w4 ⟨hv, y4⟩
    subst hv
    have cv := cmpL_val ca cb
    rw [va, vb] at cv
    have X4 := X.trans y4
    have k0 := k0.ext y4; have k1 := k1.ext y4; have k2 := k2.ext y4
    have s4 := y4.le
    refine ⟨_, rfl, ifD (fun hlt => ?_) (fun hge => ?_)⟩
    · have hlt' : x.natAbs < y.natAbs := by
        rcases cv with h | h | h <;> omega
      refine ⟨_, _, _, _, k1.loadA0 (by kernel_rfl), _, _, _, _, k0.loadA0 (by kernel_rfl), ?_⟩
      obtain ⟨w5, st5, k0', ch5, sz5⟩ := k0.storeA0 (P := P) (t := T_impl_Signed) (xs := [.bool (decide (y < 0)), .slice b1p b1n b1c]) (by kernel_rfl) rfl (by simp [Value.oneCell'])
      have k1 := k1.chg ch5 (by simp; omega); have k2 := k2.chg ch5 (by simp; omega); have X5 := X4.chg ch5 (by simp; omega)
      obtain ⟨w6, st6, k1', ch6, sz6⟩ := k1.storeA0 (P := P) (t := T_impl_Signed) (xs := [.bool (decide (x < 0)), .slice a1p a1n a1c]) (by kernel_rfl) rfl (by simp [Value.oneCell'])
      have k0' := k0'.chg ch6 (by simp; omega); have k2 := k2.chg ch6 (by simp; omega); have X6 := X5.chg ch6 (by simp; omega)
      refine ⟨w5, st5, w6, st6, ?_⟩
      unfold impl_intAdd_j0
      have D := Ext.drew w6
      refine ⟨_, fun W hW => (k0'.ext (D.trans hW)).load (by kernel_rfl) rfl, _, _, _, fun W hW => (k0'.ext (D.trans hW)).load (by kernel_rfl) rfl, _, _, _, fun W hW => (k1'.ext (D.trans hW)).load (by kernel_rfl) rfl, ?_⟩
      have hll : a1n <= b1n := by
        rcases Nat.lt_or_ge b1n a1n with h | h
        · have := canon_len cb ca (by omega); omega
        · exact h
      refine Ret.at (impl_natSub_c (hb.ext (X6.trans D)) (ha.ext (X6.trans D)) cb.1 ca.1 (by omega) hll (by omega)) ?_
      rintro v w7 ⟨p, n, c, hv, hown, y7⟩
      subst hv
      rw [va, vb] at hown
      refine ⟨_, _, _, rfl, y7, fin w7 _ p n c _ (hown.mono ?_) ((X6.trans D).trans y7) ((k2.ext D).ext y7) (ne2 hown ?_) ?_ ?_⟩
      · have := (X6.trans D).le; omega
      · have := D.le; omega
      · by_cases hx0 : x < 0 <;> by_cases hy0 : y < 0 <;> simp [hx0, hy0] at es' <;> omega
      · intro h0
        by_cases hx0 : x < 0 <;> by_cases hy0 : y < 0 <;> simp [hx0, hy0] at es' ⊢ <;> omega
    · have hge' : y.natAbs <= x.natAbs := by
        rcases cv with h | h | h <;> omega
      unfold impl_intAdd_j0
      have D := Ext.drew w4
      refine ⟨_, fun W hW => (k0.ext (D.trans hW)).load (by kernel_rfl) rfl, _, _, _, fun W hW => (k0.ext (D.trans hW)).load (by kernel_rfl) rfl, _, _, _, fun W hW => (k1.ext (D.trans hW)).load (by kernel_rfl) rfl, ?_⟩
      have hll : b1n <= a1n := by
        rcases Nat.lt_or_ge a1n b1n with h | h
        · have := canon_len ca cb (by omega); omega
        · exact h
      refine Ret.at (impl_natSub_c (ha.ext (X4.trans D)) (hb.ext (X4.trans D)) ca.1 cb.1 (by omega) hll (by omega)) ?_
      rintro v w7 ⟨p, n, c, hv, hown, y7⟩
      subst hv
      rw [va, vb] at hown
      refine ⟨_, _, _, rfl, y7, fin w7 _ p n c _ (hown.mono ?_) ((X4.trans D).trans y7) ((k2.ext D).ext y7) (ne2 hown ?_) ?_ ?_⟩
      · have := (X4.trans D).le; omega
      · have := D.le; omega
      · by_cases hx0 : x < 0 <;> by_cases hy0 : y < 0 <;> simp [hx0, hy0] at es' <;> omega
      · intro h0
        by_cases hx0 : x < 0 <;> by_cases hy0 : y < 0 <;> simp [hx0, hy0] at es' ⊢ <;> omega
end Go.Proofs.YtbgokfhcgcoipaaGreatDoor
namespace Go.Proofs.YtbgokfhcgcoipaaGreatDoor
open Go Go.Proofs.YtbgokfhcgcoipaaGreatDoor.Sx
theorem enc0 : enc 0 = [.bool false, .ints []] := by simp [enc, digs_zero]
theorem capL_canon {n : Nat} : Canon (capL (digs n)) /\ (capL (digs n)).length <= 50 := by
  unfold capL
  split
  · exact ⟨digs_canon n, by assumption⟩
  · exact ⟨⟨Limbs.nil, by simp⟩, by simp⟩
theorem icap_ok (z : Int) : intOk (icap z) = true := by
  have h := capL_canon (n := z.natAbs)
  simp only [icap, mkS, intOk, natOk_spec.2 h, Bool.true_and]
  cases decide (z < 0) <;> cases (capL (digs z.natAbs)) <;> simp
theorem mkS_digs {neg : Bool} {m : Nat} {z : Int} (hm : m = z.natAbs) (hs : m ≠ 0 -> neg = decide (z < 0)) : mkS neg (capL (digs m)) = icap z := by
  subst hm
  by_cases h0 : z.natAbs = 0
  · have hz : z = 0 := by omega
    subst hz
    simp [icap, mkS, digs_zero, capL]
  · rw [hs h0]; rfl
theorem impl_intsOk_c {w : World} {xs ys : List Value} {dx dy : List D0} (h : Reps w xs dx) (k : Reps w ys dy) (hc : dx.map D0.code = [.bool, .ints]) (kc : dy.map D0.code = [.bool, .ints]) :
    Ret P n_impl_intsOk [.agg ⟨xs⟩, .agg ⟨ys⟩] w fun v w' => v = .bool (intOk dx && intOk dy) /\ Ext w w' := by
  have hr := h; have kr := k
  obtain ⟨a0, a1p, a1n, a1c, a1z, rfl, rfl, ha⟩ := open_Signed h hc
  obtain ⟨b0, b1p, b1n, b1c, b1z, rfl, rfl, hb⟩ := open_Signed k kc
  refine impl_intsOk_ret ?_
  unfold impl_intsOk
  intro r w1 hn1 r1 w2 hn2
  have x := hn1.ext.trans hn2.ext
  have k0 := hn1.blk.ext hn2.ext; have k1 := hn2.blk
  refine ⟨_, _, _, _, k0.loadA0 (by kernel_rfl), ?_⟩
  refine Ret.at (impl_IntOk_c (hr.ext x) rfl) ?_
  rintro v w3 ⟨hv, y⟩
  subst hv
  refine ⟨_, rfl, fun e => ⟨_, _, _, _, (k1.ext y).loadA0 (by kernel_rfl), ?_⟩, fun e => ⟨by rw [e]; rfl, x.trans y⟩⟩
  refine Ret.at (impl_IntOk_c (kr.ext (x.trans y)) rfl) ?_
  rintro v w4 ⟨hv, y2⟩
  subst hv
  exact ⟨_, rfl, by rw [e]; rfl, (x.trans y).trans y2⟩
end Go.Proofs.YtbgokfhcgcoipaaGreatDoor
namespace Go.Proofs.YtbgokfhcgcoipaaGreatDoor
open Go Go.Proofs.YtbgokfhcgcoipaaGreatDoor.Sx
theorem digs_len : ∀ (k : Nat) {n : Nat}, n < 1000000000 ^ k -> (digs n).length <= k
  | 0, n, h => by
    have : n = 0 := by simpa using h
    subst this; simp [digs_zero]
  | k + 1, n, h => by
    by_cases h0 : n = 0
    · subst h0; simp [digs_zero]
    · rw [digs_pos h0, List.length_cons]
      have := digs_len k (n := n / 1000000000) (Nat.div_lt_of_lt_mul (by rw [Nat.mul_comm, <- Nat.pow_succ]; exact h))
      omega
theorem icap_fit {z : Int} (h : (digs z.natAbs).length <= 50) : icap z = enc z := by
  unfold icap capL
  rw [if_pos h]
  simp only [mkS, enc, isEmpty_digs]
  by_cases h0 : z < 0
  · have : z.natAbs ≠ 0 := by omega
    simp [h0]; omega
  · simp [h0]
theorem spec_l04Make_c {w : World} {neg : Bool} {p : Option Addr} {n c : Nat} {z : List Int} (h : IntsR w p n c z) (hl : Limbs z) :
    Ret P n_spec_l04Make [.bool neg, .slice p n c] w fun v w' => ∃ b p n c, v = .agg ⟨[.bool b, .slice p n c]⟩ /\ b = (neg && !(capL (digs (val z).toNat)).isEmpty) /\ Own w' w.heap.size T_int 1 p n c ((capL (digs (val z).toNat)).map (Value.int .i64)) /\ Ext w w' := by
  refine spec_l04Make_ret ?_
  unfold spec_l04Make
  intro r w1 hn1
  refine Ret.at (spec_l02Cap_c (h.ext hn1.ext)) ?_
  rintro v w2 ⟨p', n', c', hv, hw, hr⟩
  subst hv; subst hw
  rw [trimL_eq hl] at hr
  have hn' := hr.1
  have h50 : n' <= 50 := by
    have := (capL_canon (n := (val z).toNat)).2
    omega
  have e1 := hn1.r_eq
  refine ⟨_, _, _, rfl, fun e => ?_, fun e => ?_⟩
  all_goals
    intro r1 w3 hn3
    obtain ⟨p2, c2, w4, g1, g2, g3⟩ := Own.appendI (Own.fresh hn3) hn3.ext.le (hr.ext hn3.ext) (by omega)
    rw [Nat.zero_add] at g1 g2
    rw [List.nil_append] at g2
    have y4 : Ext w2 w4 := g3 w2 hn3.ext (Nat.le_refl _)
    refine ⟨_, _, _, _, g1, ?_⟩
  · obtain ⟨w5, st, hb5, ch, sz⟩ := (hn1.blk.ext y4).storeA0 (P := P) (t := T_impl_Signed) (xs := [.bool (decide ((0 : Int) < (n' : Nat))), .slice p2 n' c2]) (by kernel_rfl) rfl (by simp [Value.oneCell'])
    refine ⟨w5, st, _, _, _, _, hb5.loadA0 (by kernel_rfl), _, _, _, _, rfl, by rw [len_bool hn', e]; rfl, (g2.chg ch (fun q hq => ?_)).mono hn1.ext.le, (hn1.ext.trans y4).chg ch (by simp; omega)⟩
    have := (World.ownsRow.lt g2 q (by rw [<- hq]; cases p2 <;> rfl)).1
    have := hn1.size
    simp; omega
  · obtain ⟨w5, st, hb5, ch, sz⟩ := (hn1.blk.ext y4).storeA0 (P := P) (t := T_impl_Signed) (xs := [.bool false, .slice p2 n' c2]) (by kernel_rfl) rfl (by simp [Value.oneCell'])
    refine ⟨w5, st, _, _, _, _, hb5.loadA0 (by kernel_rfl), _, _, _, _, rfl, by rw [e]; rfl, (g2.chg ch (fun q hq => ?_)).mono hn1.ext.le, (hn1.ext.trans y4).chg ch (by simp; omega)⟩
    have := (World.ownsRow.lt g2 q (by rw [<- hq]; cases p2 <;> rfl)).1
    have := hn1.size
    simp; omega
end Go.Proofs.YtbgokfhcgcoipaaGreatDoor
namespace Go.Proofs.YtbgokfhcgcoipaaGreatDoor
open Go Go.Proofs.YtbgokfhcgcoipaaGreatDoor.Sx
theorem digs_split {o : List Int} {N n : Nat} (h : digs N = o ++ digs n) (hn : 0 < n) : digs N = (o ++ [((n % 1000000000 : Nat) : Int)]) ++ digs (n / 1000000000) := by
  rw [h, digs_pos (by omega)]; simp
def room (on : Nat) (n : Int) : Prop := (on = 0 /\ n < 1000000000000000000000000000) ∨ (on = 1 /\ n < 1000000000000000000) ∨ (on = 2 /\ n < 1000000000) ∨ (on = 3 /\ n < 1)
theorem room_next {on : Nat} {n : Int} (h : room on n) (h0 : 0 < n) : room (on + 1) (n / 1000000000) /\ on <= 2 := by
  unfold room at h ⊢
  omega
theorem spec_NatOf_c {w : World} {n : Int} (h0 : 0 <= n) (h1 : n <= 9223372036854775807) :
    Ret P n_spec_NatOf [.int .i64 n] w fun v w' => ∃ p' n' c', v = .slice p' n' c' /\ Own w' w.heap.size T_int 1 p' n' c' ((digs n.toNat).map (Value.int .i64)) /\ Ext w w' := by
  refine spec_NatOf_ret ?_
  unfold spec_NatOf
  intro r w1 hn1
  refine ⟨fun m p on c wr => ∃ o : List Int, 0 <= m /\ room on m /\ m <= n /\ Own wr w.heap.size T_int 1 p on c (o.map (Value.int .i64)) /\ Ext w wr /\ digs n.toNat = o ++ digs m.toNat, fun m _ _ _ _ => m.toNat,
    ⟨[], h0, by unfold room; omega, Int.le_refl _, Own.fresh hn1, hn1.ext, rfl⟩, ?_⟩
  intro junk wr m p on c ⟨o, hm0, hrm, hmn, hown, hx, hd⟩
  refine ifD (fun hpos => ?_) (fun hz => ?_)
  · obtain ⟨hr2, hon⟩ := room_next hrm hpos
    refine ⟨by decide, _, rfl, fun r1 w2 hn2 => ?_⟩
    rw [tmod_limb hm0] at hn2
    obtain ⟨p', c', w3, g1, g2, g3⟩ := Own.push hown hx.le hn2 (by omega)
    refine ⟨_, _, _, _, g1, by decide, ?_⟩
    rw [tdiv_limb hm0]
    refine exW ⟨by omega, by omega⟩ ⟨⟨_, by omega, hr2, by omega, g2, g3 w hx (Nat.le_refl _), ?_⟩, ?_⟩
    · have := digs_split hd (show 0 < m.toNat by omega)
      have e1 : ((m.toNat % 1000000000 : Nat) : Int) = m % 1000000000 := by omega
      have e2 : m.toNat / 1000000000 = (m / 1000000000).toNat := by omega
      rw [this, e1, e2]
    · show (m / 1000000000).toNat < m.toNat
      omega
  · have : m.toNat = 0 := by omega
    rw [this, digs_zero, List.append_nil] at hd
    exact ⟨_, _, _, rfl, by rw [hd]; exact hown, hx⟩
theorem impl_natOf_c {w : World} {n : Int} (h0 : 0 <= n) (h1 : n <= 18446744073709551615) :
    Ret P n_impl_natOf [.int .u64 n] w fun v w' => ∃ p' n' c', v = .slice p' n' c' /\ Own w' w.heap.size T_int 1 p' n' c' ((digs n.toNat).map (Value.int .i64)) /\ Ext w w' := by
  refine impl_natOf_ret ?_
  unfold impl_natOf
  intro r w1 hn1
  refine ⟨fun m p on c wr => ∃ o : List Int, 0 <= m /\ room on m /\ m <= n /\ Own wr w.heap.size T_int 1 p on c (o.map (Value.int .i64)) /\ Ext w wr /\ digs n.toNat = o ++ digs m.toNat, fun m _ _ _ _ => m.toNat,
    ⟨[], h0, by unfold room; omega, Int.le_refl _, Own.fresh hn1, hn1.ext, rfl⟩, ?_⟩
  intro junk wr m p on c ⟨o, hm0, hrm, hmn, hown, hx, hd⟩
  refine ifD (fun hpos => ?_) (fun hz => ?_)
  · obtain ⟨hr2, hon⟩ := room_next hrm hpos
    refine ⟨by decide, _, rfl, ?_⟩
    rw [tmod_limb hm0]
    refine exW ⟨by omega, by omega⟩ (fun r1 w2 hn2 => ?_)
    obtain ⟨p', c', w3, g1, g2, g3⟩ := Own.push hown hx.le hn2 (by omega)
    refine ⟨_, _, _, _, g1, by decide, ?_⟩
    rw [tdiv_limb hm0]
    have wu : IntKind.wrap .u64 (m / 1000000000) = m / 1000000000 := by
      simp only [IntKind.wrap, IntKind.bits, IntKind.signed]
      simp
      omega
    refine ⟨_, rfl, ?_⟩
    rw [wu]
    refine ⟨⟨_, by omega, hr2, by omega, g2, g3 w hx (Nat.le_refl _), ?_⟩, ?_⟩
    · have := digs_split hd (show 0 < m.toNat by omega)
      have e1 : ((m.toNat % 1000000000 : Nat) : Int) = m % 1000000000 := by omega
      have e2 : m.toNat / 1000000000 = (m / 1000000000).toNat := by omega
      rw [this, e1, e2]
    · show (m / 1000000000).toNat < m.toNat
      omega
  · have : m.toNat = 0 := by omega
    rw [this, digs_zero, List.append_nil] at hd
    exact ⟨_, _, _, rfl, by rw [hd]; exact hown, hx⟩
theorem digs_len3 {n : Nat} (h : n < 1000000000000000000000000000) : (digs n).length <= 3 := by
  by_cases h1 : n = 0
  · subst h1; simp [digs_zero]
  · rw [digs_pos h1]
    by_cases h2 : n / 1000000000 = 0
    · rw [h2, digs_zero]; simp
    · rw [digs_pos h2]
      by_cases h3 : n / 1000000000 / 1000000000 = 0
      · rw [h3, digs_zero]; simp
      · rw [digs_pos h3]
        have h4 : n / 1000000000 / 1000000000 / 1000000000 = 0 := by omega
        rw [h4, digs_zero]; simp
theorem icap_small {z : Int} (h : z.natAbs < 1000000000000000000000000000) : icap z = enc z := by
  have hl := digs_len3 h
  unfold icap capL
  rw [if_pos (by omega)]
  simp only [mkS, enc, isEmpty_digs]
  by_cases h0 : z < 0
  · have : z.natAbs ≠ 0 := by omega
    simp [h0]; omega
  · simp [h0]
theorem impl_IntOf_c {w : World} {n : Int} (h0 : -9223372036854775808 <= n) (h1 : n <= 9223372036854775807) :
    Ret P n_impl_IntOf [.int .i64 n] w fun v w' => ∃ vs' f, v = .agg ⟨vs'⟩ /\ Owns w' w.heap.size vs' (enc n) f /\ f.Nodup /\ Ext w w' := by
  refine impl_IntOf_ret ?_
  unfold impl_IntOf
  intro r w1 hn1
  have e1 := hn1.r_eq; have s1 := hn1.size
  have fin : ∀ (W : World) (p : Option Addr) (m c : Nat) (b : Bool), b = decide (n < 0) -> Own W w1.heap.size T_int 1 p m c ((digs n.natAbs).map (Value.int .i64)) -> Ext w1 W -> ∃ wv_2, Stores P T_impl_Signed ⟨r, 0, none⟩ (.agg #[(.bool b), (.slice p m c)]) W wv_2 /\
      ∃ (r0 : Bool) (r1_p : Option Addr) (r1_n : Nat) (r1_c : Nat), Loads P T_impl_Signed ⟨r, 0, none⟩ (.agg #[(.bool r0), (.slice r1_p r1_n r1_c)]) wv_2 /\ (fun (v : Value) (w' : World) => ∃ vs' f, v = .agg ⟨vs'⟩ /\ Owns w' w.heap.size vs' (enc n) f /\ f.Nodup /\ Ext w w') (.agg #[(.bool r0), (.slice r1_p r1_n r1_c)]) wv_2 := by
    intro W p m c b hb ho hW
    obtain ⟨w5, st, hb5, ch, sz⟩ := (hn1.blk.ext hW).storeA0 (P := P) (t := T_impl_Signed) (xs := [.bool b, .slice p m c]) (by kernel_rfl) rfl (by simp [Value.oneCell'])
    refine ⟨w5, st, _, _, _, _, hb5.loadA0 (by kernel_rfl), _, _, rfl, ?_, nodup_opt p, (hn1.ext.trans hW).chg ch (by simp; omega)⟩
    have := (Owns.int2 (b := b) ho).chg1 ch (by omega)
    rw [hb] at this
    rw [hb]
    exact this.mono (by omega)
  refine ifD (fun hneg => ?_) (fun hpos => ?_)
  · have w6 : IntKind.wrap .u64 n = n + 18446744073709551616 := by
      simp only [IntKind.wrap, IntKind.bits, IntKind.signed]
      simp
      omega
    have w7 : IntKind.wrap .u64 (0 - (n + 18446744073709551616)) = -n := by
      simp only [IntKind.wrap, IntKind.bits, IntKind.signed]
      simp
      omega
    refine ⟨_, rfl, _, rfl, ?_⟩
    rw [w6, w7]
    refine Ret.at (impl_natOf_c (by omega) (by omega)) ?_
    rintro v w2 ⟨p, m, c, hv, ho, y⟩
    subst hv
    rw [show (-n).toNat = n.natAbs by omega] at ho
    exact ⟨_, _, _, rfl, fin w2 p m c true (by simp [hneg]) ho y⟩
  · have w6 : IntKind.wrap .u64 n = n := by
      simp only [IntKind.wrap, IntKind.bits, IntKind.signed]
      simp
      omega
    refine ⟨_, rfl, ?_⟩
    rw [w6]
    refine Ret.at (impl_natOf_c (by omega) (by omega)) ?_
    rintro v w2 ⟨p, m, c, hv, ho, y⟩
    subst hv
    rw [show n.toNat = n.natAbs by omega] at ho
    exact ⟨_, _, _, rfl, fin w2 p m c false (by simp; omega) ho y⟩
theorem spec_IntOf_c {w : World} {n : Int} (h0 : -9223372036854775808 <= n) (h1 : n <= 9223372036854775807) :
    Ret P n_spec_IntOf [.int .i64 n] w fun v w' => ∃ vs' f, v = .agg ⟨vs'⟩ /\ Owns w' w.heap.size vs' (enc n) f /\ f.Nodup /\ Ext w w' := by
  refine spec_IntOf_ret ?_
  unfold spec_IntOf
  intro r w1 hn1
  have e1 := hn1.r_eq; have s1 := hn1.size
  have fin : ∀ (W : World) (neg : Bool) (p : Option Addr) (m c : Nat) (z : List Int), IntsR W p m c z -> Limbs z -> Ext w1 W -> (val z).toNat = n.natAbs -> ((val z).toNat ≠ 0 -> neg = decide (n < 0)) ->
      Calls P n_spec_l04Make ⟨[.bool neg, .slice p m c]⟩ W fun e_1 wv_7 => ∃ (t170 : Bool) (t171_p : Option Addr) (t171_n : Nat) (t171_c : Nat), e_1 = .returned (.agg #[(.bool t170), (.slice t171_p t171_n t171_c)]) /\
        ∃ wv_8, Stores P T_impl_Signed ⟨r, 0, none⟩ (.agg #[(.bool t170), (.slice t171_p t171_n t171_c)]) wv_7 wv_8 /\
        ∃ (r0 : Bool) (r1_p : Option Addr) (r1_n : Nat) (r1_c : Nat), Loads P T_impl_Signed ⟨r, 0, none⟩ (.agg #[(.bool r0), (.slice r1_p r1_n r1_c)]) wv_8 /\ (fun (v : Value) (w' : World) => ∃ vs' f, v = .agg ⟨vs'⟩ /\ Owns w' w.heap.size vs' (enc n) f /\ f.Nodup /\ Ext w w') (.agg #[(.bool r0), (.slice r1_p r1_n r1_c)]) wv_8 := by
    intro W neg p m c z hz hlz hW hm hs
    refine Ret.at (spec_l04Make_c hz hlz) ?_
    rintro v W2 ⟨b, q, qn, qc, hv, hbb, ho, y2⟩
    subst hv
    have hW0 := hW.le
    obtain ⟨W3, st, hb3, ch, sz⟩ := ((hn1.blk.ext hW).ext y2).storeA0 (P := P) (t := T_impl_Signed) (xs := [.bool b, .slice q qn qc]) (by kernel_rfl) rfl (by simp [Value.oneCell'])
    have ow2 : Owns W2 W.heap.size [.bool b, .slice q qn qc] (enc n) (q.map (·.block)).toList := by
      rw [<- icap_small (by omega), <- mkS_digs hm hs, hbb]; exact Owns.int2 ho
    exact ⟨_, _, _, _, rfl, W3, st, _, _, _, _, hb3.loadA0 (by kernel_rfl), _, _, rfl, (ow2.chg1 ch (by omega)).mono (by omega), nodup_opt q, ((hn1.ext.trans hW).trans y2).chg ch (by simp; omega)⟩
  refine ifD (fun hmin => ?_) (fun hnm => ifD (fun hneg => ?_) (fun hpos => ?_))
  · intro r1 w2 hn2
    refine fin w2 true _ 3 3 [854775808, 223372036, 9] ⟨rfl, Nat.le_refl _, by omega, fun _ => ⟨r1, 0, rfl, hn2.blk.seg⟩⟩ (fun x hx => by simp at hx; omega) hn2.ext ?_ ?_
    · simp [val]; omega
    · intro _; simp; omega
  · have w6 : IntKind.wrap .i64 (0 - n) = -n := by
      simp only [IntKind.wrap, IntKind.bits, IntKind.signed]
      simp
      omega
    refine ⟨_, rfl, ?_⟩
    rw [w6]
    refine Ret.at (spec_NatOf_c (by omega) (by omega)) ?_
    rintro v w2 ⟨p, m, c, hv, ho, y⟩
    subst hv
    refine ⟨_, _, _, rfl, fin w2 true p m c _ ho.ints (digs_limbs _) y ?_ ?_⟩
    · rw [val_digs]; omega
    · intro _; simp [hneg]
  · refine Ret.at (spec_NatOf_c (by omega) (by omega)) ?_
    rintro v w2 ⟨p, m, c, hv, ho, y⟩
    subst hv
    refine ⟨_, _, _, rfl, fin w2 false p m c _ ho.ints (digs_limbs _) y ?_ ?_⟩
    · rw [val_digs]; omega
    · intro _; simp; omega
end Go.Proofs.YtbgokfhcgcoipaaGreatDoor
namespace Go.Proofs.YtbgokfhcgcoipaaGreatDoor
open Go Go.Proofs.YtbgokfhcgcoipaaGreatDoor.Sx
theorem agg_end {t : TypeId} {w W : World} {r : Nat} {e : TypeId} {old xs : List Value} {d : List D0} {f : List Nat} {B : Nat} (hb : Blk W r e old) (X : Ext w W) (hr : w.heap.size <= r)
    (ho : Owns W B xs d f) (ht : aggT P t xs.length = true) (hlen : xs.length = old.length) (hrB : r < B) (hwB : w.heap.size <= B) :
    ∃ W', Stores P t ⟨r, 0, none⟩ (.agg ⟨xs⟩) W W' /\ Loads P t ⟨r, 0, none⟩ (.agg ⟨xs⟩) W' /\ Owns W' w.heap.size xs d f /\ Ext w W' /\ Chg [r] W W' /\ Blk W' r e xs := by
  obtain ⟨W', st, hb', ch, _⟩ := hb.storeA0 (P := P) (t := t) (xs := xs) ht hlen ho.reps.cells1
  exact ⟨W', st, hb'.loadA0 ht, (ho.chg1 ch hrB).mono hwB, X.chg ch (by simp; exact hr), ch, hb'⟩
end Go.Proofs.YtbgokfhcgcoipaaGreatDoor
namespace Go.Proofs.YtbgokfhcgcoipaaGreatDoor
open Go Go.Proofs.YtbgokfhcgcoipaaGreatDoor.Sx
theorem ByR.ne {W : World} {p : Option Addr} {n r : Nat} (h : ByR W p n) (hr : W.heap.size <= r) : 0 < n -> ∀ q, p.map (·.block) = some q -> q ≠ r := fun hn q hq => by
  obtain ⟨b, o, zs, rfl, _, _, h4⟩ := h hn
  simp only [Option.map_some, Option.some.injEq] at hq
  omega
theorem curBump {W : World} {r n c : Nat} {p : Option Addr} {k : Int} (hc : Cur W r p n c) {Q : World -> Prop} (hq : ∀ W', Cur W' r p n c -> Chg [r] W W' -> Q W') :
    ∃ t : Int, Loads P T_int ((⟨r, 0, none⟩ : Addr).add 2) (.int .i64 t) W /\ ∃ t2 : Int, t2 = IntKind.wrap .i64 (t + k) /\ ∃ W', Stores P T_int ((⟨r, 0, none⟩ : Addr).add 2) (.int .i64 t2) W W' /\ Q W' := by
  obtain ⟨e, i, x, h1, h2⟩ := hc
  obtain ⟨W', st, hb, ch, _⟩ := h2.store (P := P) (t := T_int) (k := 2) (v := .int .i64 (IntKind.wrap .i64 (x + k))) (by kernel_rfl) (by simp) rfl
  exact ⟨x, h2.load (by kernel_rfl) rfl, _, rfl, W', st, hq W' ⟨e, i, _, h1, hb⟩ ch⟩
theorem spec_MakeNum_c {w : World} {p : Option Addr} {n c : Nat} (h : ByR w p n) (hn : n <= 1048576) {k : Int} (hk : 0 < k) (hk2 : k <= 1000000000) : Ret P n_spec_MakeNum [.slice p n c, .int .i64 k] w fun v w' => ∃ z : Int, v = .int .i64 z /\ 0 <= z /\ z < k /\ Ext w w' := by
  refine spec_MakeNum_ret ?_
  unfold spec_MakeNum
  refine Ret.at (spec_l01New_c h hn) ?_
  rintro v w1 ⟨r, rfl, hr, hc, y1⟩
  refine ⟨_, rfl, curBump hc fun w2 hc2 ch2 => ?_⟩
  refine Ret.at (spec_l01Below_c hc2 ((h.ext y1).chg ch2 (h.ne hr)) (h.ne hr) hn hk hk2) ?_
  rintro v w3 ⟨z, rfl, z0, z1, _, ch3⟩
  exact ⟨_, rfl, z, rfl, z0, z1, (y1.chg ch2 (fun q hq => by have := List.mem_singleton.1 hq; omega)).chg ch3 (fun q hq => by have := List.mem_singleton.1 hq; omega)⟩
theorem spec_MakeMode_c {w : World} {p : Option Addr} {n c : Nat} (h : ByR w p n) (hn : n <= 1048576) : Ret P n_spec_MakeMode [.slice p n c] w fun v w' => ∃ z : Int, v = .int .i64 z /\ 0 <= z /\ z < 7 /\ Ext w w' := by
  refine spec_MakeMode_ret ?_
  unfold spec_MakeMode
  refine Ret.at (spec_l01New_c h hn) ?_
  rintro v w1 ⟨r, rfl, hr, hc, y1⟩
  refine ⟨_, rfl, curBump hc fun w2 hc2 ch2 => ?_⟩
  refine Ret.at (spec_l01Below_c hc2 ((h.ext y1).chg ch2 (h.ne hr)) (h.ne hr) hn (k := 7) (by decide) (by decide)) ?_
  rintro v w3 ⟨z, rfl, z0, z1, _, ch3⟩
  exact ⟨_, rfl, z, rfl, z0, z1, (y1.chg ch2 (fun q hq => by have := List.mem_singleton.1 hq; omega)).chg ch3 (fun q hq => by have := List.mem_singleton.1 hq; omega)⟩
theorem spec_MakeAmount_c {w : World} {p : Option Addr} {n c : Nat} (cur : ByteArray) (h : ByR w p n) (hn : n <= 1048576) : Ret P n_spec_MakeAmount [.slice p n c, .string cur] w fun v w' => ∃ (z : Int) (vs : List Value) (f : List Nat), v = .agg ⟨vs⟩ /\ 0 <= z /\ z < 30000 /\ Owns w' w.heap.size vs (.str cur :: enc z) f /\ f.Nodup /\ Ext w w' := by
  refine spec_MakeAmount_ret ?_
  unfold spec_MakeAmount
  intro r0 w0 hn0
  have e0 := hn0.r_eq; have z0 := hn0.size
  have h0 := h.ext hn0.ext
  refine Ret.at (spec_l01New_c h0 hn) ?_
  rintro v w1 ⟨r, rfl, hr, hc, y1⟩
  refine ⟨_, rfl, curBump hc fun w2 hc2 ch2 => ?_⟩
  refine Ret.at (spec_l01Below_c hc2 ((h0.ext y1).chg ch2 (h0.ne hr)) (h0.ne hr) hn (k := 30000) (by decide) (by decide)) ?_
  rintro v w3 ⟨z, rfl, zz0, zz1, _, ch3⟩
  have Y3 : Ext w0 w3 := (y1.chg ch2 (fun q hq => by have := List.mem_singleton.1 hq; omega)).chg ch3 (fun q hq => by have := List.mem_singleton.1 hq; omega)
  refine ⟨_, rfl, ?_⟩
  refine Ret.at (spec_IntOf_c (n := z) (by omega) (by omega)) ?_
  rintro v w4 ⟨vs4, f4, hv, ho4, nd4, y4⟩
  subst hv
  obtain ⟨a0, ap, an, ac, az, rfl, _, _⟩ := open_Signed ho4.reps (enc_code _)
  have l3 := Y3.le
  have ho : Owns w4 w3.heap.size [.string cur, .bool a0, .slice ap an ac] (.str cur :: enc z) f4 := by
    have := Owns.append (Owns.str w4 w3.heap.size cur) ho4
    simpa using this
  obtain ⟨W', st', ld', ow', xx', _, _⟩ := agg_end (t := T_impl_Money) ((hn0.blk.ext Y3).ext y4) ((hn0.ext.trans Y3).trans y4) (by omega) ho (by kernel_rfl) rfl (by omega) (by omega)
  exact ⟨_, _, _, _, rfl, W', st', _, _, _, _, _, ld', z, _, f4, rfl, zz0, zz1, ow', nd4, xx'⟩
def rateNums : List Int := [0, 1, 25, 77, 81, 190, 200, 1000]
def rateScales : List Int := [3, 3, 4]
theorem spec_l13Rate_c {w : World} {r n c : Nat} {p : Option Addr} (hc : Cur w r p n c) (hb : ByR w p n) (hne : 0 < n -> ∀ q, p.map (·.block) = some q -> q ≠ r) (hn : n <= 1048576) :
    Ret P n_spec_l13Rate [.pointer (some ⟨r, 0, none⟩)] w fun v w' => ∃ (z s : Int) (vs : List Value) (f : List Nat), v = .agg ⟨vs⟩ /\ z ∈ rateNums /\ s ∈ rateScales /\ Owns w' w.heap.size vs (enc z ++ [.int s]) f /\ f.Nodup /\ Cur w' r p n c /\ Chg [r] w w' := by
  have hrl := hc.lt
  refine spec_l13Rate_ret ?_
  unfold spec_l13Rate
  intro r0 w1 hn1 r1 w2 hn2
  have e1 := hn1.r_eq; have e2 := hn2.r_eq; have z1 := hn1.size; have z2 := hn2.size
  have X2 := hn1.ext.trans hn2.ext
  have l8 : IntsR w2 (some ⟨r1, 0, none⟩) 8 8 rateNums := by
    have := Own.of_blk (base := 0) (size := 1) (n := 8) hn2.blk (Nat.zero_le _) rfl (by decide)
    exact Own.ints (zs := rateNums) this
  refine Ret.at (spec_l01Pick_c (hc.ext X2) (hb.ext X2) hne hn l8 (fun q hq => by simp only [Option.map_some, Option.some.injEq] at hq; omega) (by decide) (by decide)) ?_
  rintro v w3 ⟨z, rfl, hz, hc3, ch3⟩
  refine ⟨_, rfl, ?_⟩
  have hzb : 0 <= z /\ z <= 1000 := by simp only [rateNums, List.mem_cons, List.not_mem_nil, or_false] at hz; omega
  refine Ret.at (spec_IntOf_c (n := z) (by omega) (by omega)) ?_
  rintro v w4 ⟨vs4, f4, hv, ho4, nd4, y4⟩
  subst hv
  obtain ⟨a0, ap, an, ac, az, rfl, _, _⟩ := open_Signed ho4.reps (enc_code _)
  refine ⟨_, _, _, _, rfl, ?_⟩
  intro r2 w5 hn5
  have e5 := hn5.r_eq; have z5 := hn5.size; have l3 := ch3.size; have l4 := y4.le
  have Y5 := y4.trans hn5.ext
  have l3s : IntsR w5 (some ⟨r2, 0, none⟩) 3 3 rateScales := by
    have := Own.of_blk (base := 0) (size := 1) (n := 3) hn5.blk (Nat.zero_le _) rfl (by decide)
    exact Own.ints (zs := rateScales) this
  have hb5 := ((hb.ext X2).chg ch3 hne).ext Y5
  refine Ret.at (spec_l01Pick_c (hc3.ext Y5) hb5 hne hn l3s (fun q hq => by simp only [Option.map_some, Option.some.injEq] at hq; omega) (by decide) (by decide)) ?_
  rintro v w6 ⟨s, rfl, hs, hc6, ch6⟩
  have hb0 : Blk w6 r0 _ _ := (((hn1.blk.ext hn2.ext).chg ch3 (fun hm => by have := List.mem_singleton.1 hm; omega)).ext Y5).chg ch6 (fun hm => by have := List.mem_singleton.1 hm; omega)
  have lt4 := ho4.lt
  have ho6 : Owns w6 w3.heap.size [.bool a0, .slice ap an ac, .int .i64 s] (enc z ++ [.int s]) f4 := by
    have h1 := (ho4.ext hn5.ext).chg ch6 (fun q hq hm => by have := (lt4 q hq).1; have := List.mem_singleton.1 hm; omega)
    have := Owns.append h1 (Owns.int w6 w3.heap.size s)
    simpa using this
  obtain ⟨w7, st7, hb7, ch7, _⟩ := hb0.storeA0 (P := P) (t := T_impl_Dec) (xs := [.bool a0, .slice ap an ac, .int .i64 s]) (by kernel_rfl) rfl ho6.reps.cells1
  have C6 : Chg [r] w w6 := ((X2.toChg.trans ch3).trans Y5.toChg).trans ch6
  refine ⟨_, rfl, w7, st7, _, _, _, _, _, hb7.loadA0 (by kernel_rfl), z, s, _, f4, rfl, hz, hs, ((ho6.chg ch7 (fun q hq hm => by have := (lt4 q hq).1; have := List.mem_singleton.1 hm; omega)).mono (by omega)), nd4, ?_, ?_⟩
  · obtain ⟨e, i, x, g1, g2⟩ := hc6
    exact ⟨e, i, x, g1, g2.chg ch7 (fun hm => by have := List.mem_singleton.1 hm; omega)⟩
  · refine ⟨ch7.os.trans C6.os, ch7.tape.trans C6.tape, ch7.output.trans C6.output, Nat.le_trans C6.size ch7.size, fun k hk hm => ?_⟩
    rw [ch7.block k (Nat.lt_of_lt_of_le hk C6.size) (fun h7 => by have := List.mem_singleton.1 h7; omega)]
    exact C6.block k hk hm
theorem spec_MakeRate_c {w : World} {p : Option Addr} {n c : Nat} (h : ByR w p n) (hn : n <= 1048576) : Ret P n_spec_MakeRate [.slice p n c] w fun v w' => ∃ (z s : Int) (vs : List Value) (f : List Nat), v = .agg ⟨vs⟩ /\ z ∈ rateNums /\ s ∈ rateScales /\ Owns w' w.heap.size vs (enc z ++ [.int s]) f /\ f.Nodup /\ Ext w w' := by
  refine spec_MakeRate_ret ?_
  unfold spec_MakeRate
  intro r0 w0 hn0
  have e0 := hn0.r_eq; have z0 := hn0.size
  have h0 := h.ext hn0.ext
  refine Ret.at (spec_l01New_c h0 hn) ?_
  rintro v w1 ⟨r, rfl, hr, hc, y1⟩
  refine ⟨_, rfl, curBump hc fun w2 hc2 ch2 => ?_⟩
  refine Ret.at (spec_l13Rate_c hc2 ((h0.ext y1).chg ch2 (h0.ne hr)) (h0.ne hr) hn) ?_
  rintro v w3 ⟨z, s, vs, f, hv, hz, hs, ho, hnd, _, ch3⟩
  subst hv
  have Y2 : Ext w0 w2 := y1.chg ch2 (fun q hq => by have := List.mem_singleton.1 hq; omega)
  have Y3 : Ext w0 w3 := Y2.chg ch3 (fun q hq => by have := List.mem_singleton.1 hq; omega)
  have l2 := Y2.le
  obtain ⟨a0, ap, an, ac, az, sc, rfl, _, _⟩ := open_Dec ho.reps rfl
  obtain ⟨W', st', ld', ow', xx', _, _⟩ := agg_end (t := T_impl_Dec) (hn0.blk.ext Y3) (hn0.ext.trans Y3) (by omega) ho (by kernel_rfl) rfl (by omega) (by omega)
  exact ⟨_, _, _, _, _, rfl, W', st', _, _, _, _, _, ld', z, s, _, f, rfl, hz, hs, ow', hnd, xx'⟩
end Go.Proofs.YtbgokfhcgcoipaaGreatDoor
namespace Go.Proofs.YtbgokfhcgcoipaaGreatDoor
open Go Go.Proofs.YtbgokfhcgcoipaaGreatDoor.Sx
abbrev CurRow := ByteArray × ByteArray × Int × Int
def implTab : List CurRow := [(S [67, 72, 70], S [55, 53, 54], 2, 5), (S [69, 85, 82], S [57, 55, 56], 2, 1), (S [85, 83, 68], S [56, 52, 48], 2, 1), (S [71, 66, 80], S [56, 50, 54], 2, 1), (S [74, 80, 89], S [51, 57, 50], 0, 1), (S [83, 69, 75], S [55, 53, 50], 2, 100), (S [78, 79, 75], S [53, 55, 56], 2, 100), (S [68, 75, 75], S [50, 48, 56], 2, 50), (S [67, 90, 75], S [50, 48, 51], 2, 100), (S [72, 85, 70], S [51, 52, 56], 2, 500), (S [80, 76, 78], S [57, 56, 53], 2, 1), (S [67, 65, 68], S [49, 50, 52], 2, 5), (S [65, 85, 68], S [48, 51, 54], 2, 5), (S [78, 90, 68], S [53, 53, 52], 2, 10), (S [75, 87, 68], S [52, 49, 52], 3, 5), (S [66, 72, 68], S [48, 52, 56], 3, 5), (S [84, 78, 68], S [55, 56, 56], 3, 10), (S [73, 83, 75], S [51, 53, 50], 0, 1), (S [75, 82, 87], S [52, 49, 48], 0, 10), (S [67, 76, 70], S [57, 57, 48], 4, 1)]
theorem und_T_impl_currency : ∃ fs, Tryz.prog.underlying T_impl_currency = some (.struct fs) := ⟨_, Tryz.underlying252⟩
theorem und_T_20_impl_currency : Tryz.prog.underlying T_20_impl_currency = some (.array 20 T_impl_currency) := Tryz.underlying283
theorem cur_fields : ∃ fs : Array Field, Tryz.prog.underlying T_impl_currency = some (.struct fs) /\ fs.size = 4 /\ (∃ f, fs[0]? = some f /\ f.type = T_string /\ f.offset = 0) /\ (∃ f, fs[1]? = some f /\ f.type = T_string /\ f.offset = 1) /\ (∃ f, fs[2]? = some f /\ f.type = T_int /\ f.offset = 2) /\ (∃ f, fs[3]? = some f /\ f.type = T_int /\ f.offset = 3) :=
  ⟨_, Tryz.underlying252, rfl, ⟨_, rfl, rfl, rfl⟩, ⟨_, rfl, rfl, rfl⟩, ⟨_, rfl, rfl, rfl⟩, ⟨_, rfl, rfl, rfl⟩⟩
abbrev G_d32 : Nat := 5
def L_d32 : List Int := [0, 1, 28, 2, 29, 14, 24, 3, 30, 22, 20, 15, 25, 17, 4, 8, 31, 27, 13, 23, 21, 19, 16, 7, 26, 12, 18, 6, 11, 5, 10, 9]
abbrev G_d64 : Nat := 6
def L_d64 : List Int := [0, 1, 56, 2, 57, 49, 28, 3, 61, 58, 42, 50, 38, 29, 17, 4, 62, 47, 59, 36, 45, 43, 51, 22, 53, 39, 33, 30, 24, 18, 12, 5, 63, 55, 48, 27, 60, 41, 37, 16, 46, 35, 44, 21, 52, 32, 23, 11, 54, 26, 40, 15, 34, 20, 31, 10, 25, 14, 19, 9, 13, 8, 7, 6]
abbrev G_pow : Nat := 4
abbrev TA_pow : Nat := 338
abbrev TE_pow : Nat := 153
def L_pow : List Int := [1, 10, 100, 1000, 10000, 100000, 1000000, 10000000, 100000000, 1000000000, 10000000000, 100000000000, 1000000000000, 10000000000000, 100000000000000, 1000000000000000, 10000000000000000, 100000000000000000, 1000000000000000000, 10000000000000000000]
theorem und_A_pow : Tryz.prog.underlying TA_pow = some (.array 20 TE_pow) := Tryz.underlying338
theorem und_E_pow : Tryz.prog.underlying TE_pow = some (.int .u64) := Tryz.underlying153
abbrev G_cur : Nat := 0
end Go.Proofs.YtbgokfhcgcoipaaGreatDoor
namespace Go.Proofs.YtbgokfhcgcoipaaGreatDoor
open Go Go.Proofs.YtbgokfhcgcoipaaGreatDoor.Sx
def curCells (r : CurRow) : List Value := [.string r.1, .string r.2.1, .int .i64 r.2.2.1, .int .i64 r.2.2.2]
def curZero : CurRow := (ByteArray.empty, ByteArray.empty, 0, 0)
def curFind : List CurRow -> ByteArray -> CurRow
  | [], _ => curZero
  | r :: l, c => if r.1 = c then r else curFind l c
def curIn (l : List CurRow) (c : ByteArray) : Bool := l.any fun r => decide (r.1 = c)
def curKnown (c : ByteArray) : Bool := curIn implTab c
def Tab (w : World) : Prop := Seg w 0 0 (implTab.flatMap curCells)
theorem Tab.ext {w w' : World} (h : Tab w) (he : Ext w w') : Tab w' := Seg.ext h he
theorem curIn_drop {l : List CurRow} {c : ByteArray} {j : Nat} (hj : j < l.length) : curIn (l.drop j) c = (decide ((l[j]'hj).1 = c) || curIn (l.drop (j + 1)) c) := by
  rw [List.drop_eq_getElem_cons hj, curIn, List.any_cons]; rfl
theorem curFind_drop {l : List CurRow} {c : ByteArray} {j : Nat} (hj : j < l.length) : curFind (l.drop j) c = if (l[j]'hj).1 = c then l[j]'hj else curFind (l.drop (j + 1)) c := by
  rw [List.drop_eq_getElem_cons hj, curFind]
theorem flat_row : ∀ (l : List CurRow) (j : Nat) (hj : j < l.length), ((l.flatMap curCells).drop (j * 4)).take 4 = curCells (l[j]'hj)
  | r :: l, 0, _ => by simp [List.flatMap_cons, curCells]
  | r :: l, j + 1, hj => by
    have := flat_row l j (by simpa using hj)
    rw [List.flatMap_cons, show (j + 1) * 4 = 4 + j * 4 by omega, <- List.drop_drop, List.drop_left' (show (curCells r).length = 4 from rfl), this]
    rfl
theorem flat_length : ∀ (l : List CurRow), (l.flatMap curCells).length = l.length * 4
  | [] => rfl
  | r :: l => by rw [List.flatMap_cons, List.length_append, flat_length l, List.length_cons]; simp [curCells]; omega
theorem impl_length : implTab.length = 20 := rfl
set_option maxRecDepth 100000 in
theorem index_cur {j : Nat} (hj : j < implTab.length) {K : Value -> Prop} (h : K (.agg ⟨curCells (implTab[j]'hj)⟩)) : indexS P T_20_impl_currency (.agg ⟨implTab.flatMap curCells⟩) (.int .i64 (j : Nat)) K := by
  have hu : P.underlying T_20_impl_currency = some (.array 20 T_impl_currency) := und_T_20_impl_currency
  have hc : P.cellsOf T_impl_currency = 4 := by kernel_rfl
  obtain ⟨fs, hs⟩ := und_T_impl_currency
  have hs : P.underlying T_impl_currency = some (.struct fs) := hs
  have hl := impl_length
  unfold indexS
  rw [hu]
  refine ⟨⟨by omega, by omega⟩, _, ?_, h⟩
  unfold partS
  rw [hs, hc]
  show Value.agg ⟨((implTab.flatMap curCells).drop (((j : Nat) : Int).toNat * 4)).take 4⟩ = _
  rw [Int.toNat_natCast, flat_row]
set_option maxRecDepth 100000 in
theorem impl_currencyOf_c {w : World} (ht : Tab w) (c : ByteArray) :
    Ret P n_impl_currencyOf [.string c] w fun v w' => v = .tuple #[.agg ⟨curCells (curFind implTab c)⟩, .bool (curKnown c)] /\ Ext w w' := by
  have hlen := impl_length
  refine impl_currencyOf_ret ?_
  unfold impl_currencyOf
  intro r w1 hn1
  have e1 := hn1.r_eq; have s1 := hn1.size
  refine ⟨_, loadsA (by rw [flat_length]; kernel_rfl) (ht.ext hn1.ext), ?_⟩
  refine ⟨fun i wr => ∃ j : Nat, i = j /\ j <= 20 /\ Ext w1 wr /\ curFind implTab c = curFind (implTab.drop j) c /\ curKnown c = curIn (implTab.drop j) c, fun i _ => 20 - i.toNat, ⟨0, rfl, by omega, Ext.refl _, rfl, rfl⟩, ?_⟩
  intro junk wr i ⟨j, hij, hj, hx, hf, hk⟩
  subst hij
  have lx := hx.le
  refine ifD (fun hlt => ?_) (fun hge => ?_)
  · have hjl : j < implTab.length := by omega
    rw [curFind_drop hjl] at hf
    rw [curIn_drop hjl] at hk
    apply index_cur hjl
    intro r1 w2 hn2
    obtain ⟨w3, st, hb3, y3⟩ := hn2.fill (P := P) (t := T_impl_currency) (xs := curCells (implTab[j]'hjl)) (by simp [curCells, Value.oneCell']) (by kernel_rfl) rfl
    refine ⟨w3, st, _, hb3.loadAt 0 rfl (by kernel_rfl) rfl, ifD (fun heq => ?_) (fun hne => ?_)⟩
    · have hf := hf.trans (if_pos heq)
      rw [decide_eq_true heq, Bool.true_or] at hk
      obtain ⟨w4, st4, hb4, ch, sz⟩ := (hn1.blk.ext (hx.trans y3)).storeA0 (P := P) (t := T_impl_currency) (xs := curCells (implTab[j]'hjl)) (by kernel_rfl) rfl (by simp [curCells, Value.oneCell'])
      refine ⟨_, _, _, _, hb3.loadA0 (by kernel_rfl), w4, st4, _, _, _, _, hb4.loadA0 (by kernel_rfl), ?_, ((hn1.ext.trans hx).trans y3).chg ch (by simp; omega)⟩
      rw [hf, hk]; rfl
    · have hf := hf.trans (if_neg hne)
      rw [decide_eq_false hne, Bool.false_or] at hk
      refine exW ⟨by omega, by omega⟩ ⟨⟨j + 1, by omega, by omega, hx.trans y3, hf, hk⟩, ?_⟩
      show 20 - ((j : Int) + 1).toNat < 20 - (j : Int).toNat
      omega
  · rw [List.drop_of_length_le (by omega)] at hf hk
    obtain ⟨w4, st4, hb4, ch, sz⟩ := (hn1.blk.ext hx).storeA0 (P := P) (t := T_impl_currency) (xs := curCells curZero) (by kernel_rfl) rfl (by simp [curCells, Value.oneCell'])
    refine ⟨w4, st4, _, _, _, _, hb4.loadA0 (by kernel_rfl), ?_, (hn1.ext.trans hx).chg ch (by simp; omega)⟩
    rw [hf, hk]; rfl
theorem impl_CurKnown_c {w : World} (ht : Tab w) (c : ByteArray) :
    Ret P n_impl_CurKnown [.string c] w fun v w' => v = .bool (curKnown c) /\ Ext w w' := by
  refine impl_CurKnown_ret ?_
  unfold impl_CurKnown
  refine Ret.at (impl_currencyOf_c ht c) ?_
  rintro v w1 ⟨hv, y1⟩
  subst hv
  refine ⟨_, _, _, _, _, rfl, ?_⟩
  intro r w2 hn2
  obtain ⟨w3, st, hb3, y3⟩ := hn2.fill (P := P) (t := T_impl_currency) (xs := curCells (curFind implTab c)) (by simp [curCells, Value.oneCell']) (by kernel_rfl) rfl
  exact ⟨w3, st, rfl, y1.trans y3⟩
end Go.Proofs.YtbgokfhcgcoipaaGreatDoor
namespace Go.Proofs.YtbgokfhcgcoipaaGreatDoor
open Go Go.Proofs.YtbgokfhcgcoipaaGreatDoor.Sx
def moneyOk : List D0 -> Bool
  | [.str c, .bool b, .ints z] => curKnown c && intOk [.bool b, .ints z] && decide (z.length <= 4)
  | _ => false
theorem impl_MoneyOk_c {w : World} (ht : Tab w) {xs : List Value} {dx : List D0} (h : Reps w xs dx) (hc : dx.map D0.code = [.str, .bool, .ints]) :
    Ret P n_impl_MoneyOk [.agg ⟨xs⟩] w fun v w' => v = .bool (moneyOk dx) /\ Ext w w' := by
  obtain ⟨t0, a0, a1p, a1n, a1c, a1z, rfl, rfl, ha⟩ := open_Money h hc
  have hl := ha.1
  refine impl_MoneyOk_ret ?_
  unfold impl_MoneyOk
  intro r w1 hn1
  refine ⟨_, hn1.blk.loadAt 0 rfl (by kernel_rfl) rfl, ?_⟩
  refine Ret.at (impl_CurKnown_c (ht.ext hn1.ext) t0) ?_
  rintro v w2 ⟨hv, y2⟩
  subst hv
  have X := hn1.ext.trans y2
  have b := hn1.blk.ext y2
  refine ⟨_, rfl, fun e1 => ?_, fun e1 => ifF ⟨by simp only [moneyOk, e1, Bool.false_and], X⟩⟩
  refine ⟨_, _, _, _, b.loadAAt 1 [.bool a0, .slice a1p a1n a1c] rfl (by kernel_rfl) rfl, ?_⟩
  have hs : Reps w2 [.bool a0, .slice a1p a1n a1c] [.bool a0, .ints a1z] := ⟨rfl, ⟨_, _, _, rfl, ha.ext X⟩, trivial⟩
  refine Ret.at (impl_IntOk_c hs rfl) ?_
  rintro v w3 ⟨hv, y3⟩
  subst hv
  refine ⟨_, rfl, fun e2 => ⟨_, _, _, (b.ext y3).loadAt 2 rfl (by kernel_rfl) rfl, ?_, X.trans y3⟩, fun e2 => ⟨by simp only [moneyOk, e2, Bool.and_false, Bool.false_and], X.trans y3⟩⟩
  simp only [moneyOk, e1, e2, Bool.true_and]
  congr 1
  simp; omega
end Go.Proofs.YtbgokfhcgcoipaaGreatDoor
namespace Go.Proofs.YtbgokfhcgcoipaaGreatDoor
open Go Go.Proofs.YtbgokfhcgcoipaaGreatDoor.Sx
theorem all_no {f : List D0 -> Bool} {l : List (List D0)} {i : Nat} (hi : i < l.length) (h : f (l[i]'hi) = false) : l.all f = false := by
  rw [Bool.eq_false_iff]
  intro ha
  rw [List.all_eq_true] at ha
  rw [ha _ (List.getElem_mem hi)] at h; cases h
theorem all_yes {f : List D0 -> Bool} {l : List (List D0)} (h : ∀ i (hi : i < l.length), f (l[i]'hi) = true) : l.all f = true := by
  rw [List.all_eq_true]
  intro x hx
  obtain ⟨i, hi, rfl⟩ := List.getElem_of_mem hx
  exact h i hi
end Go.Proofs.YtbgokfhcgcoipaaGreatDoor
namespace Go.Proofs.YtbgokfhcgcoipaaGreatDoor
open Go Go.Proofs.YtbgokfhcgcoipaaGreatDoor.Sx
def sgn (z : Int) : Int := if z < 0 then -1 else if z = 0 then 0 else 1
theorem impl_intSign_c {w : World} {xs : List Value} {z : Int} (h : Reps w xs (enc z)) : Ret P n_impl_intSign [.agg ⟨xs⟩] w fun v w' => v = .int .i64 (sgn z) /\ Ext w w' := by
  obtain ⟨a0, a1p, a1n, a1c, a1z, rfl, hd, ha⟩ := open_Signed h rfl
  simp only [enc, List.cons.injEq, D0.bool.injEq, D0.ints.injEq, and_true] at hd
  obtain ⟨rfl, rfl⟩ := hd
  have hl := ha.1
  have he := isEmpty_digs (n := z.natAbs)
  refine impl_intSign_ret ?_
  unfold impl_intSign
  intro r w1 hn
  have hzero : (a1n = 0) ↔ z = 0 := by
    rw [<- hl, List.length_eq_zero_iff, digs_nil]; omega
  refine ⟨_, _, _, hn.blk.load (by kernel_rfl) rfl, ifD (fun h0 => ⟨?_, hn.ext⟩) (fun h0 => ⟨_, hn.blk.load (by kernel_rfl) rfl, fun e => ⟨?_, hn.ext⟩, fun e => ⟨?_, hn.ext⟩⟩)⟩
  · have : z = 0 := hzero.1 (by omega)
    subst this; rfl
  · have e := of_decide_eq_true e
    simp [sgn, e]
  · have e := of_decide_eq_false e
    have : z ≠ 0 := fun h => h0 (by have := hzero.2 h; omega)
    simp [sgn, e, this]
theorem impl_intNeg_c {w : World} {xs : List Value} {z : Int} (h : Reps w xs (enc z)) (hz : (digs z.natAbs).length <= 10000000) : Ret P n_impl_intNeg [.agg ⟨xs⟩] w fun v w' => ∃ vs' f, v = .agg ⟨vs'⟩ /\ Owns w' w.heap.size vs' (enc (-z)) f /\ f.Nodup /\ Ext w w' := by
  obtain ⟨a0, a1p, a1n, a1c, a1z, rfl, hd, ha⟩ := open_Signed h rfl
  simp only [enc, List.cons.injEq, D0.bool.injEq, D0.ints.injEq, and_true] at hd
  obtain ⟨rfl, rfl⟩ := hd
  have hl := ha.1
  refine impl_intNeg_ret ?_
  unfold impl_intNeg
  intro r w1 hn1 r1 w2 hn2
  have x := hn1.ext.trans hn2.ext
  have D := Ext.drew w2
  have XD := x.trans D
  have k0 := hn1.blk.ext hn2.ext
  have e2 := hn2.r_eq; have s1 := hn1.size; have s2 := hn2.size
  refine ⟨_, fun W hW => (k0.ext (D.trans hW)).load (by kernel_rfl) rfl, _, _, _, fun W hW => (k0.ext (D.trans hW)).load (by kernel_rfl) rfl, ?_⟩
  refine Ret.at (impl_natCopy_c (ha.ext XD) (by omega)) ?_
  rintro v w3 ⟨p, c, hv, ho, y3⟩
  subst hv
  refine ⟨_, _, _, rfl, y3, ?_⟩
  refine Ret.at (impl_signed_c ho.ints.1) ?_
  rintro v w4 ⟨hv, y4⟩
  subst hv
  have lD := D.le
  obtain ⟨w5, st, hb5, ch, sz⟩ := (((hn2.blk.ext D).ext y3).ext y4).storeA0 (P := P) (t := T_impl_Signed) (xs := [.bool (!(decide (z < 0)) && !(digs z.natAbs).isEmpty), .slice p a1n c]) (by kernel_rfl) rfl (by simp [Value.oneCell'])
  refine ⟨_, _, _, _, rfl, w5, st, _, _, _, _, hb5.loadA0 (by kernel_rfl), _, _, rfl, ?_, nodup_opt p, ((XD.trans y3).trans y4).chg ch (by simp; omega)⟩
  have eb : (!(decide (z < 0)) && !(digs z.natAbs).isEmpty) = decide (-z < 0) := by
    rw [isEmpty_digs]
    by_cases h0 : z = 0
    · subst h0; rfl
    · by_cases h1 : z < 0
      · have : ¬ (-z < 0) := by omega
        simp [h1]; omega
      · have h2 : z.natAbs ≠ 0 := by omega
        simp [h1, h0]; omega
  rw [eb]
  have := ((Owns.int2 (b := decide (-z < 0)) (ho.ext y4)).chg1 ch (by omega)).mono (B' := w.heap.size) (by omega)
  unfold enc
  rw [Int.natAbs_neg]
  exact this
theorem impl_intCmp_c {w : World} {xs ys : List Value} {x y : Int} (h : Reps w xs (enc x)) (k : Reps w ys (enc y)) (hx : (digs x.natAbs).length <= 10000000) (hy : (digs y.natAbs).length <= 10000000) :
    Ret P n_impl_intCmp [.agg ⟨xs⟩, .agg ⟨ys⟩] w fun v w' => v = .int .i64 (sgn (x - y)) /\ Ext w w' := by
  have hr := h; have kr := k
  obtain ⟨a0, a1p, a1n, a1c, a1z, rfl, hd, ha⟩ := open_Signed h rfl
  obtain ⟨b0, b1p, b1n, b1c, b1z, rfl, he, hb⟩ := open_Signed k rfl
  refine impl_intCmp_ret ?_
  unfold impl_intCmp
  intro r w1 hn1 r1 w2 hn2
  have X := hn1.ext.trans hn2.ext
  have D := Ext.drew w2
  have XD := X.trans D
  have k0 := hn1.blk.ext hn2.ext; have k1 := hn2.blk
  refine ⟨_, _, _, _, fun W hW => (k0.ext (D.trans hW)).loadA0 (by kernel_rfl), _, _, _, _, fun W hW => (k1.ext (D.trans hW)).loadA0 (by kernel_rfl), ?_⟩
  refine Ret.at (impl_intNeg_c (kr.ext XD) hy) ?_
  rintro v w3 ⟨vs', f, hv, ho, _, y3⟩
  subst hv
  obtain ⟨q0, q1p, q1n, q1c, q1z, rfl, hq, hqi⟩ := open_Signed ho.reps (enc_code _)
  refine ⟨_, _, _, _, rfl, y3, ?_⟩
  refine Ret.at (impl_intAdd_c (hr.ext (XD.trans y3)) ho.reps hx (by rw [Int.natAbs_neg]; exact hy)) ?_
  rintro v w4 ⟨p, n, c, hv, hown, y4⟩
  subst hv
  refine ⟨_, _, _, _, rfl, ?_⟩
  have hs : Reps w4 [.bool (decide (x + -y < 0)), .slice p n c] (enc (x + -y)) := ⟨rfl, ⟨_, _, _, rfl, hown.ints⟩, trivial⟩
  refine Ret.at (impl_intSign_c hs) ?_
  rintro v w5 ⟨hv, y5⟩
  subst hv
  exact ⟨_, rfl, rfl, ((XD.trans y3).trans y4).trans y5⟩
end Go.Proofs.YtbgokfhcgcoipaaGreatDoor
namespace Go.Proofs.YtbgokfhcgcoipaaGreatDoor
open Go Go.Proofs.YtbgokfhcgcoipaaGreatDoor.Sx
theorem moneyOk_int {c : ByteArray} {b : Bool} {z : List Int} (h : moneyOk [.str c, .bool b, .ints z] = true) : intOk [.bool b, .ints z] = true := by
  simp only [moneyOk, Bool.and_eq_true] at h
  exact h.1.2
end Go.Proofs.YtbgokfhcgcoipaaGreatDoor
namespace Go.Proofs.YtbgokfhcgcoipaaGreatDoor.Sx
open Go
def D0.cnt : D0 -> Int
  | .ints z => (z.length : Nat)
  | _ => 1
def cnts : List D0 -> Int
  | [] => 0
  | d :: r => d.cnt + cnts r
def tcnts : List D0 -> Int
  | [] => 0
  | .ints z :: r => (z.length : Nat) + tcnts r
  | _ :: r => tcnts r
def cntL : List (List D0) -> Int
  | [] => 0
  | x :: l => cnts x + cntL l
theorem take_snoc {α : Type} {l : List α} {i : Nat} {x : α} (h : l[i]? = some x) : l.take (i + 1) = l.take i ++ [x] := by
  rw [List.take_add_one, h]; rfl
theorem cnts_le : ∀ (l : List D0), cnts l <= ((bulks l + l.length : Nat) : Int)
  | [] => by simp [cnts]
  | d :: r => by
    have h2 := cnts_le r
    have h1 : d.cnt <= (d.bulk : Nat) + 1 := by cases d <;> simp [D0.cnt, D0.bulk] <;> omega
    simp only [cnts, bulks, List.map_cons, List.sum_cons, List.length_cons] at h2 ⊢
    omega
theorem cntL_le {m : Nat} : ∀ (l : List (List D0)), (∀ x ∈ l, x.length <= m) -> cntL l <= (((l.map bulks).sum + l.length * m : Nat) : Int)
  | [], _ => by simp [cntL]
  | x :: l, h => by
    have h1 := cnts_le x; have h2 := cntL_le l fun y hy => h y (.tail _ hy); have h3 := h x (.head _)
    simp only [cntL, List.map_cons, List.sum_cons, List.length_cons, Nat.succ_mul] at h2 ⊢
    omega
theorem mem_opt {o : Option Nat} {q : Nat} (h : o = some q) : q ∈ o.toList := by subst h; simp
theorem opt_mem {o : Option Nat} {q : Nat} (h : q ∈ o.toList) : o = some q := by cases o <;> simp_all
theorem Owns.done {w : World} {B : Nat} {vs : List Value} {ds : List D0} {f : List Nat} (h : Owns w B vs ds f) (hc : ds.map D0.code = []) : vs = [] /\ ds = [] /\ f = [] := by
  match vs, ds, h, hc with
  | [], [], h, _ => exact ⟨rfl, rfl, h⟩
  | v :: us, [], h, _ => exact h.elim
theorem Blk.segMid {w : World} {b o : Nat} {e : TypeId} {xs cur zs : List Value} (h : Blk w b e (xs ++ cur ++ zs)) (hA : xs.length = o) : Seg w b o cur := by
  subst hA
  have h1 := h.seg
  have h2 := (h1.drop xs.length).take cur.length
  rw [List.append_assoc, List.drop_left, List.take_left] at h2
  simpa using h2
theorem Blk.storeMid {P : Program} {w : World} {t : TypeId} {b o : Nat} {e : TypeId} {xs cur zs : List Value} {v : Value} (h : Blk w b e (xs ++ cur ++ zs)) (hA : xs.length = o) (j : Nat) (hj : j < cur.length) (ht : cellT P t = true) (hv : v.oneCell' = true) {a : Addr} (ha : a = ⟨b, o + j, none⟩) :
    ∃ w', Stores P t a v w w' /\ Blk w' b e (xs ++ cur.set j v ++ zs) /\ Chg [b] w w' /\ w'.heap.size = w.heap.size := by
  subst ha; subst hA
  obtain ⟨w', h1, h2, h3, h4⟩ := h.store (P := P) (k := xs.length + j) (v := v) ht (by simp; omega) hv
  refine ⟨w', by rw [addr_add, Nat.zero_add] at h1; exact h1, ?_, h3, h4⟩
  rw [List.append_assoc, List.set_append_right _ _ (by omega), Nat.add_sub_cancel_left, List.set_append_left _ _ hj, <- List.append_assoc] at h2
  exact h2
theorem Own.blk {w : World} {B : Nat} {e : TypeId} {size : Nat} {p : Option Addr} {n c : Nat} {xs : List Value} (h : Own w B e size p n c xs) (hn : 0 < n) :
    ∃ b ys, p = some ⟨b, 0, none⟩ /\ B <= b /\ Blk w b e ys /\ ys.length = c * size /\ n <= c /\ c <= maxLen /\ ys.take (n * size) = xs := by
  rcases h.2 with ⟨h1, h2⟩ | ⟨g, cap, cur, h1, hb, hg, h3, h4, h5, h6⟩
  · omega
  · simp only [Value.slice.injEq] at h1
    obtain ⟨e1, _, e3⟩ := h1
    have e3 : c = cap := by omega
    subst e3
    exact ⟨g, cur.toList, e1, hb, hg, by simpa using h5, h3, h4, h6⟩
theorem Own.of_blk' {w : World} {B : Nat} {e : TypeId} {size : Nat} {b n c : Nat} {ys : List Value} (h : Blk w b e ys) (hb : B <= b) (hl : ys.length = c * size) (hn : n <= c) (hc : c <= maxLen) : Own w B e size (some ⟨b, 0, none⟩) n c (ys.take (n * size)) :=
  ⟨by
    have : n * size <= c * size := Nat.mul_le_mul_right _ hn
    simp; omega, .inr ⟨b, c, ⟨ys⟩, rfl, hb, h, hn, hc, by simpa using hl, rfl⟩⟩
theorem Own.set {P : Program} {w : World} {B : Nat} {e : TypeId} {size : Nat} {p : Option Addr} {n c : Nat} {xs : List Value} (h : Own w B e size p n c xs) {t : TypeId} {i : Nat} {v : Value} (hi : i < xs.length) (ht : cellT P t = true) (hv : v.oneCell' = true) :
    ∃ b w', p = some ⟨b, 0, none⟩ /\ Stores P t ((⟨b, 0, none⟩ : Addr).add i) v w w' /\ Own w' B e size p n c (xs.set i v) /\ Chg (p.map (·.block)).toList w w' /\ w'.heap.size = w.heap.size := by
  have hl := h.len
  have hn : 0 < n := by
    rcases Nat.eq_zero_or_pos n with h0 | h0
    · subst h0; simp at hl; rw [hl] at hi; simp at hi
    · exact h0
  obtain ⟨b, ys, rfl, hb, hblk, hyl, hnc, hc, hx⟩ := h.blk hn
  have hle : n * size <= c * size := Nat.mul_le_mul_right _ hnc
  obtain ⟨w', st, hb', ch, sz⟩ := hblk.store (P := P) (t := t) (k := i) (v := v) ht (by omega) hv
  refine ⟨b, w', rfl, st, ?_, by simpa using ch, sz⟩
  have := Own.of_blk' (n := n) hb' hb (by simpa using hyl) hnc hc
  rw [List.take_set, hx] at this
  exact this
theorem AllO.set {S : List Nat} {w w' : World} {B k : Nat} {cs' : List Value} {x' : List D0} (hc : Chg S w w') (hk : cs'.length = k) : ∀ {css : List (List Value)} {l : List (List D0)} {fs : List (List Nat)}, AllO w B k css l fs -> ∀ (i : Nat) (fi : List Nat), fs[i]? = some fi ->
    Owns w' B cs' x' fi -> (∀ (j : Nat) (f : List Nat), j ≠ i -> fs[j]? = some f -> ∀ y ∈ f, y ∉ S) -> AllO w' B k (css.set i cs') (l.set i x') fs
  | [], [], [], _, i, fi, hx, _, _ => by simp at hx
  | cs :: css, y :: l, f :: fs, h, 0, fi, hx, ho, hS => by
    simp only [List.getElem?_cons_zero, Option.some.injEq] at hx
    subst hx
    refine ⟨hk, ho, h.2.2.chg hc fun y hy => ?_⟩
    obtain ⟨f', hf, hyf⟩ := List.mem_flatten.1 hy
    obtain ⟨j, hj, e⟩ := List.getElem_of_mem hf
    exact hS (j + 1) f' (by omega) (by simp [List.getElem?_eq_getElem hj, e]) y hyf
  | cs :: css, y :: l, f :: fs, h, i + 1, fi, hx, ho, hS => by
    simp only [List.getElem?_cons_succ] at hx
    refine ⟨h.1, h.2.1.chg hc fun y hy => hS 0 f (by omega) rfl y hy, AllO.set hc hk h.2.2 i fi hx ho fun j f' hj hf => hS (j + 1) f' (by omega) (by simpa using hf)⟩
  | [], [], _ :: _, h, _, _, _, _, _ => h.elim
  | [], _ :: _, _, h, _, _, _, _, _ => h.elim
  | _ :: _, [], _, h, _, _, _, _, _ => h.elim
  | _ :: _, _ :: _, [], h, _, _, _, _, _ => h.elim
end Go.Proofs.YtbgokfhcgcoipaaGreatDoor.Sx
