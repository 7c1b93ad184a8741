/-
  Parts of the proof of fnFee_holds: G4, G5, G6, G7, SxMem, Nm, SxData, SxOwn, DInts, DS.
  Conditions: none.
-/
import Derived.Laws.AppendOwn
import Derived.Laws.CopyRow
import Derived.Test.YtgbknjdjbahdkaaGreatDoorFe1
set_option linter.unusedVariables false
set_option linter.unusedSimpArgs false
namespace Go.RowKit
end Go.RowKit

namespace Go.Proofs.YtgbknjdjbahdkaaGreatDoor
variable {w : World} {R : Value -> World -> Prop}
open Go Go.Proofs.YtgbknjdjbahdkaaGreatDoor.Sx
set_option maxRecDepth 100000
def impl_TextPercent_j0 (s : ByteArray) (r : Nat) (W : World) (R : Value -> World -> Prop) : Prop :=
 ∃ a0 : Int, a0 = IntKind.wrap .i64 (((s.size : Nat) : Int) - 1) /\ (0 <= (a0 : Int) /\ (a0 : Int) <= (s.size : Nat)) /\ Calls P 85 ⟨[(.string (s.extract 0 a0.toNat))]⟩ W fun e a1 =>
 ∃ a2 a3 a4 a5 a6 a7, e = .returned (.tuple #[.agg #[.bool a2, .slice a3 a4 a5, .int .i64 a6], .bool a7]) /\
 ∀ a8 a9, New a1 (.cells ⟨[.bool false, .slice none 0 0, .int .i64 0]⟩ 46 (0, 0)) a8 a9 ->
 ∃ wv_4, Stores P 46 ⟨a8, 0, none⟩ (.agg #[.bool a2, .slice a3 a4 a5, .int .i64 a6]) a9 wv_4 /\
 ((!a7) = true ->
 ∃ wv_5, Stores P 46 ⟨r, 0, none⟩ (.agg #[.bool false, .slice none 0 0, .int .i64 0]) wv_4 wv_5 /\
 ∃ r0_1 aa ab ac r2_1, Loads P 46 ⟨r, 0, none⟩ (.agg #[.bool r0_1, .slice aa ab ac, .int .i64 r2_1]) wv_5 /\ R (.tuple #[.agg #[.bool r0_1, .slice aa ab ac, .int .i64 r2_1], .bool false]) wv_5) /\
 ((!a7) = false ->
 ∃ ae af ag ah, Loads P 33 ((⟨a8, 0, none⟩ : Addr).add 0) (.agg #[.bool ae, .slice af ag ah]) wv_4 /\ ∃ ai, Loads P 3 ((⟨a8, 0, none⟩ : Addr).add 2) (.int .i64 ai) wv_4 /\ ∃ aj : Int, aj = IntKind.wrap .i64 (ai + 2) /\ Calls P 86 ⟨[.agg #[.bool ae, .slice af ag ah], .int .i64 aj]⟩ wv_4 fun ak al =>
 ∃ am an ao ap aq, ak = .returned (.agg #[.bool am, .slice an ao ap, .int .i64 aq]) /\
 ∀ ar au, New al (.cells ⟨[.bool false, .slice none 0 0, .int .i64 0]⟩ 46 (0, 0)) ar au ->
 ∃ wv_8, Stores P 46 ⟨ar, 0, none⟩ (.agg #[.bool am, .slice an ao ap, .int .i64 aq]) au wv_8 /\
 ∃ av aw ax ay az, Loads P 46 ⟨ar, 0, none⟩ (.agg #[.bool av, .slice aw ax ay, .int .i64 az]) wv_8 /\ Calls P 55 ⟨[.agg #[.bool av, .slice aw ax ay, .int .i64 az]]⟩ wv_8 fun b0 b1 =>
 ∃ b2, b0 = .returned (.string b2) /\
 ((decide (b2 ≠ s)) = true ->
 ∃ wv_10, Stores P 46 ⟨r, 0, none⟩ (.agg #[.bool false, .slice none 0 0, .int .i64 0]) b1 wv_10 /\
 ∃ r0_2 b3 b4 b5 r2_2, Loads P 46 ⟨r, 0, none⟩ (.agg #[.bool r0_2, .slice b3 b4 b5, .int .i64 r2_2]) wv_10 /\ R (.tuple #[.agg #[.bool r0_2, .slice b3 b4 b5, .int .i64 r2_2], .bool false]) wv_10) /\
 ((decide (b2 ≠ s)) = false ->
 ∃ b6 b7 b8 b9 ba, Loads P 46 ⟨ar, 0, none⟩ (.agg #[.bool b6, .slice b7 b8 b9, .int .i64 ba]) b1 /\ ∃ wv_11, Stores P 46 ⟨r, 0, none⟩ (.agg #[.bool b6, .slice b7 b8 b9, .int .i64 ba]) b1 wv_11 /\
 ∃ r0_3 bb bc bd r2_3, Loads P 46 ⟨r, 0, none⟩ (.agg #[.bool r0_3, .slice bb bc bd, .int .i64 r2_3]) wv_11 /\ R (.tuple #[.agg #[.bool r0_3, .slice bb bc bd, .int .i64 r2_3], .bool true]) wv_11))
def impl_TextPercent (s : ByteArray) (w : World) (R : Value -> World -> Prop) : Prop :=
 ∀ r wv, New w (.cells ⟨[.bool false, .slice none 0 0, .int .i64 0]⟩ 46 (0, 0)) r wv ->
 ((decide (s = (S []))) = true ->
 (true = true ->
 ∃ wv_1, Stores P 46 ⟨r, 0, none⟩ (.agg #[.bool false, .slice none 0 0, .int .i64 0]) wv wv_1 /\
 ∃ r0 a0 a1 a2 r2, Loads P 46 ⟨r, 0, none⟩ (.agg #[.bool r0, .slice a0 a1 a2, .int .i64 r2]) wv_1 /\ R (.tuple #[.agg #[.bool r0, .slice a0 a1 a2, .int .i64 r2], .bool false]) wv_1) /\
 (true = false ->
 impl_TextPercent_j0 s r wv R)) /\
 ((decide (s = (S []))) = false ->
 ∃ a3 : Int, a3 = IntKind.wrap .i64 (((s.size : Nat) : Int) - 1) /\ 0 <= (a3 : Int) /\ ∃ b : UInt8, s[a3.toNat]? = some b /\ ((decide ((((b.toNat : Nat) : Int) : Int) ≠ 37)) = true ->
 ∃ wv_12, Stores P 46 ⟨r, 0, none⟩ (.agg #[.bool false, .slice none 0 0, .int .i64 0]) wv wv_12 /\
 ∃ r0_4 a4 a5 a6 r2_4, Loads P 46 ⟨r, 0, none⟩ (.agg #[.bool r0_4, .slice a4 a5 a6, .int .i64 r2_4]) wv_12 /\ R (.tuple #[.agg #[.bool r0_4, .slice a4 a5 a6, .int .i64 r2_4], .bool false]) wv_12) /\
 ((decide ((((b.toNat : Nat) : Int) : Int) ≠ 37)) = false ->
 impl_TextPercent_j0 s r wv R))
theorem impl_TextPercent_ret {s : ByteArray} (h : impl_TextPercent s w R) : Ret P 36 [.string s] w R := Ret.of_fsem Tryz.func36 rfl (Eq.mp (show _ = fsem P Tryz.f36 (fun k => []) _ R w from by kernel_rfl) h)
def impl_StepsOk_j0 (a0 : Option Addr) (a1 : Nat) (W : World) (R : Value -> World -> Prop) : Prop :=
 ∃ (a2 : Int -> World -> Prop) (mu : Int -> World -> Nat), a2 0 W /\
 ∀ (a3 : Fr) (wv : World) (a4 : Int), a2 a4 wv ->
 ((decide ((a4 : Int) < ((a1 : Nat) : Int))) = true ->
 (0 <= (a4 : Int) /\ (a4 : Int) < (a1 : Nat)) /\ ptrS a0 fun ad => ∃ a5 a6 a7 a8 a9 aa, Loads P 48 (ad.add (a4.toNat * 4)) (.agg #[.int .i64 a5, .bool a6, .slice a7 a8 a9, .int .i64 aa]) wv /\ ∀ r ab, New wv (.cells ⟨[.int .i64 0, .bool false, .slice none 0 0, .int .i64 0]⟩ 48 (0, 0)) r ab ->
 ∃ wv_2, Stores P 48 ⟨r, 0, none⟩ (.agg #[.int .i64 a5, .bool a6, .slice a7 a8 a9, .int .i64 aa]) ab wv_2 /\
 ∃ ac, (∀ wv_3, Ext wv_2.drew wv_3 -> Loads P 3 ((⟨r, 0, none⟩ : Addr).add 0) (.int .i64 ac) wv_3) /\ ((decide ((1000000000 : Int) < ac)) = true ->
 (true = true ->
 (true = true ->
 R (.bool false) wv_2.drew) /\
 (true = false ->
 ∃ ae : Int, ae = IntKind.wrap .i64 (a4 + 1) /\ a2 ae wv_2.drew /\ mu ae wv_2.drew < mu a4 wv)) /\
 (true = false ->
 ∃ af ag ah ai aj, (∀ wv_4, Ext wv_2.drew wv_4 -> Loads P 46 ((⟨r, 0, none⟩ : Addr).add 1) (.agg #[.bool af, .slice ag ah ai, .int .i64 aj]) wv_4) /\ Calls P 87 ⟨[.agg #[.bool af, .slice ag ah ai, .int .i64 aj]]⟩ wv_2.drew fun e ak =>
 ∃ al, e = .returned (.bool al) /\
 ((!al) = true ->
 R (.bool false) ak) /\
 ((!al) = false ->
 ∃ am : Int, am = IntKind.wrap .i64 (a4 + 1) /\ a2 am ak /\ mu am ak < mu a4 wv))) /\
 ((decide ((1000000000 : Int) < ac)) = false ->
 ((decide ((0 : Int) < a4)) = true ->
 ∃ an : Int, an = IntKind.wrap .i64 (a4 - 1) /\ (0 <= (an : Int) /\ (an : Int) < (a1 : Nat)) /\ ptrS a0 fun ao => ∃ ap, (∀ wv_6, Ext wv_2.drew wv_6 -> Loads P 3 ((ao.add (an.toNat * 4)).add 0) (.int .i64 ap) wv_6) /\ ∃ aq, (∀ wv_7, Ext wv_2.drew wv_7 -> Loads P 3 ((⟨r, 0, none⟩ : Addr).add 0) (.int .i64 aq) wv_7) /\ ((decide ((aq : Int) <= ap)) = true ->
 (true = true ->
 R (.bool false) wv_2.drew) /\
 (true = false ->
 ∃ ar : Int, ar = IntKind.wrap .i64 (a4 + 1) /\ a2 ar wv_2.drew /\ mu ar wv_2.drew < mu a4 wv)) /\
 ((decide ((aq : Int) <= ap)) = false ->
 ∃ au av aw ax ay, (∀ wv_8, Ext wv_2.drew wv_8 -> Loads P 46 ((⟨r, 0, none⟩ : Addr).add 1) (.agg #[.bool au, .slice av aw ax, .int .i64 ay]) wv_8) /\ Calls P 87 ⟨[.agg #[.bool au, .slice av aw ax, .int .i64 ay]]⟩ wv_2.drew fun az b0 =>
 ∃ b1, az = .returned (.bool b1) /\
 ((!b1) = true ->
 R (.bool false) b0) /\
 ((!b1) = false ->
 ∃ b2 : Int, b2 = IntKind.wrap .i64 (a4 + 1) /\ a2 b2 b0 /\ mu b2 b0 < mu a4 wv))) /\
 ((decide ((0 : Int) < a4)) = false ->
 (false = true ->
 (true = true ->
 R (.bool false) wv_2.drew) /\
 (true = false ->
 ∃ b3 : Int, b3 = IntKind.wrap .i64 (a4 + 1) /\ a2 b3 wv_2.drew /\ mu b3 wv_2.drew < mu a4 wv)) /\
 (false = false ->
 ∃ b4 b5 b6 b7 b8, (∀ wv_10, Ext wv_2.drew wv_10 -> Loads P 46 ((⟨r, 0, none⟩ : Addr).add 1) (.agg #[.bool b4, .slice b5 b6 b7, .int .i64 b8]) wv_10) /\ Calls P 87 ⟨[.agg #[.bool b4, .slice b5 b6 b7, .int .i64 b8]]⟩ wv_2.drew fun b9 ba =>
 ∃ bb, b9 = .returned (.bool bb) /\
 ((!bb) = true ->
 R (.bool false) ba) /\
 ((!bb) = false ->
 ∃ bc : Int, bc = IntKind.wrap .i64 (a4 + 1) /\ a2 bc ba /\ mu bc ba < mu a4 wv))))) /\
 ((decide ((a4 : Int) < ((a1 : Nat) : Int))) = false ->
 R (.bool true) wv)
def impl_StepsOk (a0 : Option Addr) (a1 a2 : Nat) (w : World) (R : Value -> World -> Prop) : Prop :=
 ((decide ((((a1 : Nat) : Int) : Int) < 1)) = true ->
 (true = true ->
 (true = true ->
 R (.bool false) w) /\
 (true = false ->
 impl_StepsOk_j0 a0 a1 w R)) /\
 (true = false ->
 (0 <= (0 : Int) /\ (0 : Int) < (a1 : Nat)) /\ ptrS a0 fun a3 => ∃ a4, Loads P 3 ((a3.add (0 * 4)).add 0) (.int .i64 a4) w /\ ((decide ((a4 : Int) ≠ 0)) = true ->
 R (.bool false) w) /\
 ((decide ((a4 : Int) ≠ 0)) = false ->
 impl_StepsOk_j0 a0 a1 w R))) /\
 ((decide ((((a1 : Nat) : Int) : Int) < 1)) = false ->
 ((decide ((8 : Int) < ((a1 : Nat) : Int))) = true ->
 (true = true ->
 R (.bool false) w) /\
 (true = false ->
 impl_StepsOk_j0 a0 a1 w R)) /\
 ((decide ((8 : Int) < ((a1 : Nat) : Int))) = false ->
 (0 <= (0 : Int) /\ (0 : Int) < (a1 : Nat)) /\ ptrS a0 fun a5 => ∃ a6, Loads P 3 ((a5.add (0 * 4)).add 0) (.int .i64 a6) w /\ ((decide ((a6 : Int) ≠ 0)) = true ->
 R (.bool false) w) /\
 ((decide ((a6 : Int) ≠ 0)) = false ->
 impl_StepsOk_j0 a0 a1 w R)))
theorem impl_StepsOk_ret {a : Option Addr} {a0 a1 : Nat} (h : impl_StepsOk a a0 a1 w R) : Ret P 37 [.slice a a0 a1] w R := Ret.of_fsem Tryz.func37 rfl (Eq.mp (show _ = fsem P Tryz.f37 (fun k => cond (Nat.beq k 5) [(22, .one (.int .i64))] ([])) _ R w from by kernel_rfl) h)
def spec_l01New_j0 (a0 : Option Addr) (a1 : Nat) (wv : World) (a2 : Int -> Int -> World -> Prop) (mu : Int -> Int -> World -> Nat) (h i : Int) (W : World) (R : Value -> World -> Prop) : Prop :=
 ∃ a3 : Int, a3 = IntKind.wrap .i64 (h * 41) /\ (0 <= (i : Int) /\ (i : Int) < (a1 : Nat)) /\ ptrS a0 fun ad => ∃ a4, Loads P 5 (ad.add (i.toNat * 1)) (.int .u8 a4) W /\ ∃ a5 : Int, a5 = IntKind.wrap .i64 a4 /\ ∃ a6 : Int, a6 = IntKind.wrap .i64 (a3 + a5) /\ ∃ a7 : Int, a7 = IntKind.wrap .i64 (a6 + 7) /\ ∃ a8 : Int, a8 = IntKind.wrap .i64 (BitVec.ofInt (IntKind.bits .i64) a7 &&& BitVec.ofInt (IntKind.bits .i64) 1073741823).toNat /\ ∃ a9 : Int, a9 = IntKind.wrap .i64 (i + 1) /\ a2 a8 a9 W /\ mu a8 a9 W < mu h i wv
def spec_l01New (a0 : Option Addr) (a1 a2 : Nat) (w : World) (R : Value -> World -> Prop) : Prop :=
 ∃ t7 : Int, t7 = IntKind.wrap .i64 (1616 + ((a1 : Nat) : Int)) /\ ∃ (a3 : Int -> Int -> World -> Prop) (mu : Int -> Int -> World -> Nat), a3 t7 0 w /\
 ∀ (a4 : Fr) (wv : World) (h i : Int), a3 h i wv ->
 ((decide ((i : Int) < ((a1 : Nat) : Int))) = true ->
 ((decide ((i : Int) < 4000)) = true ->
 spec_l01New_j0 a0 a1 wv a3 mu h i wv R) /\
 ((decide ((i : Int) < 4000)) = false ->
 ∀ r a5, New wv (.cells ⟨[.slice a0 a1 a2, .int .i64 0, .int .i64 h]⟩ 75 (0, 0)) r a5 ->
 R (.pointer (some ⟨r, 0, none⟩)) a5)) /\
 ((decide ((i : Int) < ((a1 : Nat) : Int))) = false ->
 (false = true ->
 spec_l01New_j0 a0 a1 wv a3 mu h i wv R) /\
 (false = false ->
 ∀ a6 a7, New wv (.cells ⟨[.slice a0 a1 a2, .int .i64 0, .int .i64 h]⟩ 75 (0, 0)) a6 a7 ->
 R (.pointer (some ⟨a6, 0, none⟩)) a7))
theorem spec_l01New_ret {a : Option Addr} {a0 a1 : Nat} (h : spec_l01New a a0 a1 w R) : Ret P 41 [.slice a a0 a1] w R := Ret.of_fsem Tryz.func41 rfl (Eq.mp (show _ = fsem P Tryz.f41 (fun k => cond (Nat.beq k 4) [(3, .one (.int .i64)), (4, .one (.int .i64))] ([])) _ R w from by kernel_rfl) h)
def spec_l14Draw (c : Option Addr) (w : World) (R : Value -> World -> Prop) : Prop :=
 Calls P 89 ⟨[(.pointer c)]⟩ w fun e wv =>
 ∃ a0 a1 a2 a3 a4, e = .returned (.agg #[.bool a0, .slice a1 a2 a3, .int .i64 a4]) /\
 ∀ r a5, New wv (.cells ⟨[.int .i64 0, .bool a0, .slice a1 a2 a3, .int .i64 a4]⟩ 48 (0, 0)) r a5 ->
 Calls P 43 ⟨[(.pointer c), .int .i64 4]⟩ a5 fun a6 a7 =>
 ∃ a8, a6 = .returned (.int .i64 a8) /\
 ∃ (a9 : Option Addr -> Nat -> Nat -> Int -> Int -> World -> Prop) (mu : Option Addr -> Nat -> Nat -> Int -> Int -> World -> Nat), a9 (some ⟨r, 0, none⟩) 1 1 0 a8 a7 /\
 ∀ (aa : Fr) (ab : World) (ac : Option Addr) (ae af : Nat) (fromv n : Int), a9 ac ae af fromv n ab ->
 ((decide ((0 : Int) < n)) = true ->
 ∃ ag : Int, ag = IntKind.wrap .i64 (fromv + 1) /\ Calls P 43 ⟨[(.pointer c), .int .i64 900]⟩ ab fun ah ai =>
 ∃ aj, ah = .returned (.int .i64 aj) /\
 ∃ ak : Int, ak = IntKind.wrap .i64 (ag + aj) /\ Calls P 89 ⟨[(.pointer c)]⟩ ai fun al am =>
 ∃ an ao ap aq ar, al = .returned (.agg #[.bool an, .slice ao ap aq, .int .i64 ar]) /\
 ∀ au av, New am (.cells ⟨[.int .i64 ak, .bool an, .slice ao ap aq, .int .i64 ar]⟩ 48 (0, 0)) au av ->
 ∃ aw ax ay az, Appends P [22, 22] [.slice ac ae af, (.slice (some ⟨au, 0, none⟩) 1 1)] (.slice aw ax ay) av az /\
 ∃ b0 : Int, b0 = IntKind.wrap .i64 (n - 1) /\ a9 aw ax ay ak b0 az /\ mu aw ax ay ak b0 az < mu ac ae af fromv n ab) /\
 ((decide ((0 : Int) < n)) = false ->
 R (.slice ac ae af) ab)
theorem spec_l14Draw_ret {c : Option Addr} (h : spec_l14Draw c w R) : Ret P 42 [.pointer c] w R := Ret.of_fsem Tryz.func42 rfl (Eq.mp (show _ = fsem P Tryz.f42 (fun k => cond (Nat.beq k 5) [(3, .one .slice), (4, .one (.int .i64)), (5, .one (.int .i64))] ([])) _ R w from by kernel_rfl) h)
def spec_l01Below (c : Option Addr) (n : Int) (w : World) (R : Value -> World -> Prop) : Prop :=
 ((decide ((n : Int) <= 0)) = true ->
 R (.int .i64 0) w) /\
 ((decide ((n : Int) <= 0)) = false ->
 ((decide ((n : Int) <= 256)) = true ->
 Calls P 90 ⟨[(.pointer c)]⟩ w fun e wv =>
 ∃ a0, e = .returned (.int .i64 a0) /\
 (n : Int) ≠ 0 /\ ∃ a1 : Int, a1 = Int.tmod a0 n /\ R (.int .i64 a1) wv) /\
 ((decide ((n : Int) <= 256)) = false ->
 Calls P 90 ⟨[(.pointer c)]⟩ w fun a2 a3 =>
 ∃ a4, a2 = .returned (.int .i64 a4) /\
 Calls P 90 ⟨[(.pointer c)]⟩ a3 fun a5 a6 =>
 ∃ a7, a5 = .returned (.int .i64 a7) /\
 Calls P 90 ⟨[(.pointer c)]⟩ a6 fun a8 a9 =>
 ∃ aa, a8 = .returned (.int .i64 aa) /\
 Calls P 90 ⟨[(.pointer c)]⟩ a9 fun ab ac =>
 ∃ ae, ab = .returned (.int .i64 ae) /\
 ∃ af : Int, af = IntKind.wrap .i64 (a4 * 16777216) /\ ∃ ag : Int, ag = IntKind.wrap .i64 (a7 * 65536) /\ ∃ ah : Int, ah = IntKind.wrap .i64 (af + ag) /\ ∃ ai : Int, ai = IntKind.wrap .i64 (aa * 256) /\ ∃ aj : Int, aj = IntKind.wrap .i64 (ah + ai) /\ ∃ ak : Int, ak = IntKind.wrap .i64 (aj + ae) /\ (n : Int) ≠ 0 /\ ∃ al : Int, al = Int.tmod ak n /\ R (.int .i64 al) ac))
theorem spec_l01Below_ret {c : Option Addr} {n : Int} (h : spec_l01Below c n w R) : Ret P 43 [.pointer c, .int .i64 n] w R := Ret.of_fsem Tryz.func43 rfl (Eq.mp (show _ = fsem P Tryz.f43 (fun k => []) _ R w from by kernel_rfl) h)
def impl_IntOk (x0 : Bool) (a0 : Option Addr) (a1 a2 : Nat) (w : World) (R : Value -> World -> Prop) : Prop :=
 ∀ r wv, New w (.cells ⟨[.bool x0, .slice a0 a1 a2]⟩ 33 (0, 0)) r wv ->
 ∃ a3 a4 a5, Loads P 31 ((⟨r, 0, none⟩ : Addr).add 1) (.slice a3 a4 a5) wv /\ Calls P 91 ⟨[.slice a3 a4 a5]⟩ wv fun e a6 =>
 ∃ t5, e = .returned (.bool t5) /\
 (t5 = true ->
 ∃ t8, Loads P 4 ((⟨r, 0, none⟩ : Addr).add 0) (.bool t8) a6 /\ ((!t8) = true ->
 R (.bool true) a6) /\
 ((!t8) = false ->
 ∃ a7 a8 a9, Loads P 31 ((⟨r, 0, none⟩ : Addr).add 1) (.slice a7 a8 a9) a6 /\ R (.bool (decide ((0 : Int) < ((a8 : Nat) : Int)))) a6)) /\
 (t5 = false ->
 R (.bool false) a6)
theorem impl_IntOk_ret {x0 : Bool} {a : Option Addr} {a0 a1 : Nat} (h : impl_IntOk x0 a a0 a1 w R) : Ret P 44 [.agg #[.bool x0, .slice a a0 a1]] w R := Ret.of_fsem Tryz.func44 rfl (Eq.mp (show _ = fsem P Tryz.f44 (fun k => []) _ R w from by kernel_rfl) h)
def impl_RatZero (w : World) (R : Value -> World -> Prop) : Prop :=
 ∀ r wv, New w (.cells ⟨[.bool false, .slice none 0 0, .slice none 0 0]⟩ 35 (0, 0)) r wv ->
 ∀ a0 a1, New wv (.cells ⟨[.int .i64 1]⟩ 3 (0, 0)) a0 a1 ->
 ∃ wv_2, Stores P 35 ⟨r, 0, none⟩ (.agg #[.bool false, .slice none 0 0, (.slice (some ⟨a0, 0, none⟩) 1 1)]) a1 wv_2 /\
 ∃ r0 a2 a3 a4 a5 a6 a7, Loads P 35 ⟨r, 0, none⟩ (.agg #[.bool r0, .slice a2 a3 a4, .slice a5 a6 a7]) wv_2 /\ R (.agg #[.bool r0, .slice a2 a3 a4, .slice a5 a6 a7]) wv_2
theorem impl_RatZero_ret (h : impl_RatZero w R) : Ret P 45 [] w R := Ret.of_fsem Tryz.func45 rfl (Eq.mp (show _ = fsem P Tryz.f45 (fun k => []) _ R w from by kernel_rfl) h)
def impl_natCmp (a0 : Option Addr) (a1 a2 : Nat) (a3 : Option Addr) (a4 a5 : Nat) (w : World) (R : Value -> World -> Prop) : Prop :=
 ((decide ((((a1 : Nat) : Int) : Int) ≠ ((a4 : Nat) : Int))) = true ->
 ((decide ((((a1 : Nat) : Int) : Int) < ((a4 : Nat) : Int))) = true ->
 R (.int .i64 (-1)) w) /\
 ((decide ((((a1 : Nat) : Int) : Int) < ((a4 : Nat) : Int))) = false ->
 R (.int .i64 1) w)) /\
 ((decide ((((a1 : Nat) : Int) : Int) ≠ ((a4 : Nat) : Int))) = false ->
 ∃ a6 : Int, a6 = IntKind.wrap .i64 (((a1 : Nat) : Int) - 1) /\ ∃ (a7 : Int -> World -> Prop) (mu : Int -> World -> Nat), a7 a6 w /\
 ∀ (a8 : Fr) (wv : World) (i : Int), a7 i wv ->
 ((decide ((0 : Int) <= i)) = true ->
 (0 <= (i : Int) /\ (i : Int) < (a1 : Nat)) /\ ptrS a0 fun ad => ∃ a9, (∀ wv_1, Ext wv.drew wv_1 -> Loads P 3 (ad.add (i.toNat * 1)) (.int .i64 a9) wv_1) /\ (0 <= (i : Int) /\ (i : Int) < (a4 : Nat)) /\ ptrS a3 fun aa => ∃ ab, (∀ wv_2, Ext wv.drew wv_2 -> Loads P 3 (aa.add (i.toNat * 1)) (.int .i64 ab) wv_2) /\ ((decide ((a9 : Int) ≠ ab)) = true ->
 (0 <= (i : Int) /\ (i : Int) < (a1 : Nat)) /\ ptrS a0 fun ac => ∃ ae, (∀ wv_3, Ext wv.drew.drew wv_3 -> Loads P 3 (ac.add (i.toNat * 1)) (.int .i64 ae) wv_3) /\ (0 <= (i : Int) /\ (i : Int) < (a4 : Nat)) /\ ptrS a3 fun af => ∃ ag, (∀ wv_4, Ext wv.drew.drew wv_4 -> Loads P 3 (af.add (i.toNat * 1)) (.int .i64 ag) wv_4) /\ ((decide ((ae : Int) < ag)) = true ->
 R (.int .i64 (-1)) wv.drew.drew) /\
 ((decide ((ae : Int) < ag)) = false ->
 R (.int .i64 1) wv.drew.drew)) /\
 ((decide ((a9 : Int) ≠ ab)) = false ->
 ∃ ah : Int, ah = IntKind.wrap .i64 (i - 1) /\ a7 ah wv.drew /\ mu ah wv.drew < mu i wv)) /\
 ((decide ((0 : Int) <= i)) = false ->
 R (.int .i64 0) wv))
theorem impl_natCmp_ret {a : Option Addr} {a0 a1 : Nat} {a2 : Option Addr} {a3 a4 : Nat} (h : impl_natCmp a a0 a1 a2 a3 a4 w R) : Ret P 47 [.slice a a0 a1, .slice a2 a3 a4] w R := Ret.of_fsem Tryz.func47 rfl (Eq.mp (show _ = fsem P Tryz.f47 (fun k => cond (Nat.beq k 7) [(5, .one (.int .i64))] ([])) _ R w from by kernel_rfl) h)
def impl_NatOf (n : Int) (w : World) (R : Value -> World -> Prop) : Prop :=
 ((decide ((n : Int) < 0)) = true ->
 R (.slice none 0 0) w) /\
 ((decide ((n : Int) < 0)) = false ->
 ∃ t6 : Int, t6 = IntKind.wrap .u64 n /\ Calls P 51 ⟨[.int .u64 t6]⟩ w fun e wv =>
 ∃ a0 a1 a2, e = .returned (.slice a0 a1 a2) /\
 R (.slice a0 a1 a2) wv)
theorem impl_NatOf_ret {n : Int} (h : impl_NatOf n w R) : Ret P 48 [.int .i64 n] w R := Ret.of_fsem Tryz.func48 rfl (Eq.mp (show _ = fsem P Tryz.f48 (fun k => []) _ R w from by kernel_rfl) h)
def impl_natSub_j1 (a0 r : Nat) (a1 : World) (a2 : Int -> Int -> World -> Prop) (mu : Int -> Int -> World -> Nat) (borrow a3 : Int) (borrow_1 n_1 : Int) (a4 : World) (R : Value -> World -> Prop) : Prop :=
 (0 <= (a3 : Int) /\ (a3 : Int) < (a0 : Nat)) /\ ∃ wv_2, Stores P 3 ((⟨r, 0, none⟩ : Addr).add (a3.toNat * 1)) (.int .i64 n_1) a4 wv_2 /\
 ∃ a5 : Int, a5 = IntKind.wrap .i64 (a3 + 1) /\ a2 borrow_1 a5 wv_2 /\ mu borrow_1 a5 wv_2 < mu borrow a3 a1
def impl_natSub_j0 (a0 r : Nat) (a1 : World) (a2 : Int -> Int -> World -> Prop) (mu : Int -> Int -> World -> Nat) (borrow a3 n : Int) (W : World) (R : Value -> World -> Prop) : Prop :=
 ((decide ((n : Int) < 0)) = true ->
 ∃ a4 : Int, a4 = IntKind.wrap .i64 (n + 1000000000) /\ impl_natSub_j1 a0 r a1 a2 mu borrow a3 1 a4 W R) /\
 ((decide ((n : Int) < 0)) = false ->
 impl_natSub_j1 a0 r a1 a2 mu borrow a3 0 n W R)
def impl_natSub (a0 : Option Addr) (a1 a2 : Nat) (a3 : Option Addr) (a4 a5 : Nat) (w : World) (R : Value -> World -> Prop) : Prop :=
 (0 <= (((a1 : Nat) : Int) : Int) /\ (((a1 : Nat) : Int) : Int) <= ((a1 : Nat) : Int) /\ ((8 : Nat) : Int) * ((a1 : Nat) : Int) <= 281474976710656) /\
 ∀ r wv, New w (.cells ⟨zeroRow (.int .i64 0) (a1 * 1)⟩ 3 (0, 0)) r wv ->
 ∃ (a6 : Int -> Int -> World -> Prop) (mu : Int -> Int -> World -> Nat), a6 0 0 wv /\
 ∀ (a7 : Fr) (a8 : World) (borrow a9 : Int), a6 borrow a9 a8 ->
 ((decide ((a9 : Int) < ((a1 : Nat) : Int))) = true ->
 (0 <= (a9 : Int) /\ (a9 : Int) < (a1 : Nat)) /\ ptrS a0 fun ad => ∃ aa, Loads P 3 (ad.add (a9.toNat * 1)) (.int .i64 aa) a8 /\ ∃ ab : Int, ab = IntKind.wrap .i64 (aa - borrow) /\ ((decide ((a9 : Int) < ((a4 : Nat) : Int))) = true ->
 (0 <= (a9 : Int) /\ (a9 : Int) < (a4 : Nat)) /\ ptrS a3 fun ac => ∃ ae, Loads P 3 (ac.add (a9.toNat * 1)) (.int .i64 ae) a8 /\ ∃ af : Int, af = IntKind.wrap .i64 (ab - ae) /\ impl_natSub_j0 a1 r a8 a6 mu borrow a9 af a8 R) /\
 ((decide ((a9 : Int) < ((a4 : Nat) : Int))) = false ->
 impl_natSub_j0 a1 r a8 a6 mu borrow a9 ab a8 R)) /\
 ((decide ((a9 : Int) < ((a1 : Nat) : Int))) = false ->
 Calls P 93 ⟨[(.slice (some ⟨r, 0, none⟩) a1 a1)]⟩ a8 fun e ag =>
 ∃ ah ai aj, e = .returned (.slice ah ai aj) /\
 R (.slice ah ai aj) ag)
theorem impl_natSub_ret {a : Option Addr} {a0 a1 : Nat} {a2 : Option Addr} {a3 a4 : Nat} (h : impl_natSub a a0 a1 a2 a3 a4 w R) : Ret P 49 [.slice a a0 a1, .slice a2 a3 a4] w R := Ret.of_fsem Tryz.func49 rfl (Eq.mp (show _ = fsem P Tryz.f49 (fun k => cond (Nat.beq k 5) [(6, .one (.int .i64)), (14, .one (.int .i64))] ([])) _ R w from by kernel_rfl) h)
def impl_RatMul (r0 : Bool) (a0 : Option Addr) (a1 a2 : Nat) (a3 : Option Addr) (a4 a5 : Nat) (s0 : Bool) (a6 : Option Addr) (a7 a8 : Nat) (a9 : Option Addr) (aa ab : Nat) (w : World) (R : Value -> World -> Prop) : Prop :=
 ∀ r wv, New w (.cells ⟨[.bool r0, .slice a0 a1 a2, .slice a3 a4 a5]⟩ 35 (0, 0)) r wv ->
 ∀ ac ae, New wv (.cells ⟨[.bool s0, .slice a6 a7 a8, .slice a9 aa ab]⟩ 35 (0, 0)) ac ae ->
 ∀ af ag, New ae (.cells ⟨[.bool false, .slice none 0 0, .slice none 0 0]⟩ 35 (0, 0)) af ag ->
 ∃ ah ai aj ak al am an, Loads P 35 ⟨r, 0, none⟩ (.agg #[.bool ah, .slice ai aj ak, .slice al am an]) ag /\ ∃ ao ap aq ar au av aw, Loads P 35 ⟨ac, 0, none⟩ (.agg #[.bool ao, .slice ap aq ar, .slice au av aw]) ag /\ Calls P 52 ⟨[.agg #[.bool ah, .slice ai aj ak, .slice al am an], .agg #[.bool ao, .slice ap aq ar, .slice au av aw]]⟩ ag fun e ax =>
 ∃ t8, e = .returned (.bool t8) /\
 ((!t8) = true ->
 ∃ wv_4, Stores P 35 ⟨af, 0, none⟩ (.agg #[.bool false, .slice none 0 0, .slice none 0 0]) ax wv_4 /\
 ∃ r0_1 ay az b0 b1 b2 b3, Loads P 35 ⟨af, 0, none⟩ (.agg #[.bool r0_1, .slice ay az b0, .slice b1 b2 b3]) wv_4 /\ R (.tuple #[.agg #[.bool r0_1, .slice ay az b0, .slice b1 b2 b3], .bool false]) wv_4) /\
 ((!t8) = false ->
 ∃ b4 b5 b6 b7, (∀ wv_5, Ext ax.drew wv_5 -> Loads P 33 ((⟨r, 0, none⟩ : Addr).add 0) (.agg #[.bool b4, .slice b5 b6 b7]) wv_5) /\ ∃ b8 b9 ba bb, (∀ wv_6, Ext ax.drew wv_6 -> Loads P 33 ((⟨ac, 0, none⟩ : Addr).add 0) (.agg #[.bool b8, .slice b9 ba bb]) wv_6) /\ Calls P 94 ⟨[.agg #[.bool b4, .slice b5 b6 b7], .agg #[.bool b8, .slice b9 ba bb]]⟩ ax.drew fun bc bd =>
 ∃ be bf bg bh, bc = .returned (.agg #[.bool be, .slice bf bg bh]) /\
 Ext ax.drew bd /\ ∃ bi bj bk, (∀ wv_8, Ext ax.drew wv_8 -> Loads P 31 ((⟨r, 0, none⟩ : Addr).add 2) (.slice bi bj bk) wv_8) /\ ∃ bl bm bn, (∀ wv_9, Ext ax.drew wv_9 -> Loads P 31 ((⟨ac, 0, none⟩ : Addr).add 2) (.slice bl bm bn) wv_9) /\ Calls P 72 ⟨[.slice bi bj bk, .slice bl bm bn]⟩ bd fun bo bp =>
 ∃ bq br bs, bo = .returned (.slice bq br bs) /\
 Calls P 60 ⟨[.agg #[.bool be, .slice bf bg bh], .slice bq br bs]⟩ bp fun bt bu =>
 ∃ bv bw bx bz c0 c1 c2 c3, bt = .returned (.tuple #[.agg #[.bool bv, .slice bw bx bz, .slice c0 c1 c2], .bool c3]) /\
 ∃ wv_12, Stores P 35 ⟨af, 0, none⟩ (.agg #[.bool bv, .slice bw bx bz, .slice c0 c1 c2]) bu wv_12 /\
 ∃ r0_2 c4 c5 c6 c7 c8 c9, Loads P 35 ⟨af, 0, none⟩ (.agg #[.bool r0_2, .slice c4 c5 c6, .slice c7 c8 c9]) wv_12 /\ R (.tuple #[.agg #[.bool r0_2, .slice c4 c5 c6, .slice c7 c8 c9], .bool c3]) wv_12)
theorem impl_RatMul_ret {r0 : Bool} {a : Option Addr} {a0 a1 : Nat} {a2 : Option Addr} {a3 a4 : Nat} {s0 : Bool} {a5 : Option Addr} {a6 a7 : Nat} {a8 : Option Addr} {a9 b : Nat} (h : impl_RatMul r0 a a0 a1 a2 a3 a4 s0 a5 a6 a7 a8 a9 b w R) : Ret P 50 [.agg #[.bool r0, .slice a a0 a1, .slice a2 a3 a4], .agg #[.bool s0, .slice a5 a6 a7, .slice a8 a9 b]] w R := Ret.of_fsem Tryz.func50 rfl (Eq.mp (show _ = fsem P Tryz.f50 (fun k => []) _ R w from by kernel_rfl) h)
def impl_natOf (n : Int) (w : World) (R : Value -> World -> Prop) : Prop :=
 ∀ r wv, New w (.cells ⟨[]⟩ 3 (0, 0)) r wv ->
 ∃ (a0 : Int -> Option Addr -> Nat -> Nat -> World -> Prop) (mu : Int -> Option Addr -> Nat -> Nat -> World -> Nat), a0 n (some ⟨r, 0, none⟩) 0 0 wv /\
 ∀ (a1 : Fr) (a2 : World) (n_1 : Int) (a3 : Option Addr) (a4 a5 : Nat), a0 n_1 a3 a4 a5 a2 ->
 ((decide ((0 : Int) < n_1)) = true ->
 (1000000000 : Int) ≠ 0 /\ ∃ t9 : Int, t9 = Int.tmod n_1 1000000000 /\ ∃ a6 : Int, a6 = IntKind.wrap .i64 t9 /\ ∀ a7 a8, New a2 (.cells ⟨[.int .i64 a6]⟩ 3 (0, 0)) a7 a8 ->
 ∃ a9 aa ab ac, Appends P [31, 31] [.slice a3 a4 a5, (.slice (some ⟨a7, 0, none⟩) 1 1)] (.slice a9 aa ab) a8 ac /\
 (1000000000 : Int) ≠ 0 /\ ∃ ae : Int, ae = IntKind.wrap .u64 (Int.tdiv n_1 1000000000) /\ a0 ae a9 aa ab ac /\ mu ae a9 aa ab ac < mu n_1 a3 a4 a5 a2) /\
 ((decide ((0 : Int) < n_1)) = false ->
 R (.slice a3 a4 a5) a2)
theorem impl_natOf_ret {n : Int} (h : impl_natOf n w R) : Ret P 51 [.int .u64 n] w R := Ret.of_fsem Tryz.func51 rfl (Eq.mp (show _ = fsem P Tryz.f51 (fun k => cond (Nat.beq k 3) [(0, .one (.int .u64)), (3, .one .slice)] ([])) _ R w from by kernel_rfl) h)
def impl_ratsOk (r0 : Bool) (a0 : Option Addr) (a1 a2 : Nat) (a3 : Option Addr) (a4 a5 : Nat) (s0 : Bool) (a6 : Option Addr) (a7 a8 : Nat) (a9 : Option Addr) (aa ab : Nat) (w : World) (R : Value -> World -> Prop) : Prop :=
 ∀ r wv, New w (.cells ⟨[.bool r0, .slice a0 a1 a2, .slice a3 a4 a5]⟩ 35 (0, 0)) r wv ->
 ∀ ac ae, New wv (.cells ⟨[.bool s0, .slice a6 a7 a8, .slice a9 aa ab]⟩ 35 (0, 0)) ac ae ->
 ∃ af ag ah ai aj ak al, Loads P 35 ⟨r, 0, none⟩ (.agg #[.bool af, .slice ag ah ai, .slice aj ak al]) ae /\ Calls P 63 ⟨[.agg #[.bool af, .slice ag ah ai, .slice aj ak al]]⟩ ae fun e am =>
 ∃ t6, e = .returned (.bool t6) /\
 (t6 = true ->
 ∃ an ao ap aq ar au av, Loads P 35 ⟨ac, 0, none⟩ (.agg #[.bool an, .slice ao ap aq, .slice ar au av]) am /\ Calls P 63 ⟨[.agg #[.bool an, .slice ao ap aq, .slice ar au av]]⟩ am fun aw ax =>
 ∃ t9, aw = .returned (.bool t9) /\
 R (.bool t9) ax) /\
 (t6 = false ->
 R (.bool false) am)
theorem impl_ratsOk_ret {r0 : Bool} {a : Option Addr} {a0 a1 : Nat} {a2 : Option Addr} {a3 a4 : Nat} {s0 : Bool} {a5 : Option Addr} {a6 a7 : Nat} {a8 : Option Addr} {a9 b : Nat} (h : impl_ratsOk r0 a a0 a1 a2 a3 a4 s0 a5 a6 a7 a8 a9 b w R) : Ret P 52 [.agg #[.bool r0, .slice a a0 a1, .slice a2 a3 a4], .agg #[.bool s0, .slice a5 a6 a7, .slice a8 a9 b]] w R := Ret.of_fsem Tryz.func52 rfl (Eq.mp (show _ = fsem P Tryz.f52 (fun k => []) _ R w from by kernel_rfl) h)
def impl_ratNeg (r0 : Bool) (a0 : Option Addr) (a1 a2 : Nat) (a3 : Option Addr) (a4 a5 : Nat) (w : World) (R : Value -> World -> Prop) : Prop :=
 ∀ r wv, New w (.cells ⟨[.bool r0, .slice a0 a1 a2, .slice a3 a4 a5]⟩ 35 (0, 0)) r wv ->
 ∀ a6 a7, New wv (.cells ⟨[.bool false, .slice none 0 0, .slice none 0 0]⟩ 35 (0, 0)) a6 a7 ->
 ∃ a8 a9 aa ab, (∀ wv_2, Ext a7.drew wv_2 -> Loads P 33 ((⟨r, 0, none⟩ : Addr).add 0) (.agg #[.bool a8, .slice a9 aa ab]) wv_2) /\ Calls P 95 ⟨[.agg #[.bool a8, .slice a9 aa ab]]⟩ a7.drew fun e ac =>
 ∃ ae af ag ah, e = .returned (.agg #[.bool ae, .slice af ag ah]) /\
 Ext a7.drew ac /\ ∃ ai aj ak, (∀ wv_4, Ext a7.drew wv_4 -> Loads P 31 ((⟨r, 0, none⟩ : Addr).add 2) (.slice ai aj ak) wv_4) /\ Calls P 96 ⟨[.slice ai aj ak]⟩ ac fun al am =>
 ∃ an ao ap, al = .returned (.slice an ao ap) /\
 ∃ wv_6, Stores P 35 ⟨a6, 0, none⟩ (.agg #[.bool ae, .slice af ag ah, .slice an ao ap]) am wv_6 /\
 ∃ r0_1 aq ar au av aw ax, Loads P 35 ⟨a6, 0, none⟩ (.agg #[.bool r0_1, .slice aq ar au, .slice av aw ax]) wv_6 /\ R (.agg #[.bool r0_1, .slice aq ar au, .slice av aw ax]) wv_6
theorem impl_ratNeg_ret {r0 : Bool} {a : Option Addr} {a0 a1 : Nat} {a2 : Option Addr} {a3 a4 : Nat} (h : impl_ratNeg r0 a a0 a1 a2 a3 a4 w R) : Ret P 53 [.agg #[.bool r0, .slice a a0 a1, .slice a2 a3 a4]] w R := Ret.of_fsem Tryz.func53 rfl (Eq.mp (show _ = fsem P Tryz.f53 (fun k => []) _ R w from by kernel_rfl) h)
def impl_IntText (n : Int) (w : World) (R : Value -> World -> Prop) : Prop :=
 Calls P 84 ⟨[.int .i64 n]⟩ w fun e wv =>
 ∃ t4, e = .returned (.string t4) /\
 R (.string t4) wv
theorem impl_IntText_ret {n : Int} (h : impl_IntText n w R) : Ret P 54 [.int .i64 n] w R := Ret.of_fsem Tryz.func54 rfl (Eq.mp (show _ = fsem P Tryz.f54 (fun k => []) _ R w from by kernel_rfl) h)
def impl_Percent (r0 : Bool) (a0 : Option Addr) (a1 a2 : Nat) (r2 : Int) (w : World) (R : Value -> World -> Prop) : Prop :=
 ∀ r wv, New w (.cells ⟨[.bool r0, .slice a0 a1 a2, .int .i64 r2]⟩ 46 (0, 0)) r wv ->
 ∃ a3 a4 a5 a6 a7, Loads P 46 ⟨r, 0, none⟩ (.agg #[.bool a3, .slice a4 a5 a6, .int .i64 a7]) wv /\ Calls P 87 ⟨[.agg #[.bool a3, .slice a4 a5 a6, .int .i64 a7]]⟩ wv fun e a8 =>
 ∃ t6, e = .returned (.bool t6) /\
 ((!t6) = true ->
 R (.string (S [])) a8) /\
 ((!t6) = false ->
 ∃ a9 aa ab ac ae, (∀ wv_2, Ext a8.drew wv_2 -> Loads P 46 ⟨r, 0, none⟩ (.agg #[.bool a9, .slice aa ab ac, .int .i64 ae]) wv_2) /\ ∀ (ss : List (Option Nat)) (af : World), Fl [.cells ⟨[.bool false, .slice none 0 0, .int .i64 0]⟩ 46 (0, 0)] [none] a8.drew ss af ->
 Calls P 13 ⟨[.int .i64 100]⟩ af fun ag ah =>
 ∃ ai aj ak al, ag = .returned (.agg #[.bool ai, .slice aj ak al]) /\
 Ext af ah /\ ∀ (ss_1 : List (Option Nat)) (am : World), Fl [.cells ⟨[.bool false, .slice none 0 0, .int .i64 0]⟩ 46 (0, 0)] ss ah ss_1 am ->
 Calls P 97 ⟨[.agg #[.bool a9, .slice aa ab ac, .int .i64 ae], .agg #[.bool ai, .slice aj ak al, .int .i64 0]]⟩ am fun an ao =>
 ∃ ap aq ar au av aw, an = .returned (.tuple #[.agg #[.bool ap, .slice aq ar au, .int .i64 av], .bool aw]) /\
 ∀ (ss_2 : List (Option Nat)) (ax : World) (ay : Nat), Fl [.cells ⟨[.bool false, .slice none 0 0, .int .i64 0]⟩ 46 (0, 0)] ss_1 ao ss_2 ax -> ss_2[0]? = some (some ay) ->
 ∃ wv_8, Stores P 46 ⟨ay, 0, none⟩ (.agg #[.bool ap, .slice aq ar au, .int .i64 av]) ax wv_8 /\
 ∃ az b0 b1 b2 b3, Loads P 46 ⟨ay, 0, none⟩ (.agg #[.bool az, .slice b0 b1 b2, .int .i64 b3]) wv_8 /\ Calls P 99 ⟨[.agg #[.bool az, .slice b0 b1 b2, .int .i64 b3]]⟩ wv_8 fun b4 b5 =>
 ∃ b6 b7 b8 b9 ba, b4 = .returned (.agg #[.bool b6, .slice b7 b8 b9, .int .i64 ba]) /\
 Calls P 98 ⟨[.agg #[.bool b6, .slice b7 b8 b9, .int .i64 ba]]⟩ b5 fun bb bc =>
 ∃ bd, bb = .returned (.string bd) /\
 bd.size + (S [37]).size <= 9223372036854775807 /\ ∃ be : ByteArray, be = bd ++ (S [37]) /\ R (.string be) bc)
theorem impl_Percent_ret {r0 : Bool} {a : Option Addr} {a0 a1 : Nat} {r2 : Int} (h : impl_Percent r0 a a0 a1 r2 w R) : Ret P 55 [.agg #[.bool r0, .slice a a0 a1, .int .i64 r2]] w R := Ret.of_fsem Tryz.func55 rfl (Eq.mp (show _ = fsem P Tryz.f55 (fun k => []) _ R w from by kernel_rfl) h)
def impl_Join (a0 : Option Addr) (a1 a2 : Nat) (byv : ByteArray) (w : World) (R : Value -> World -> Prop) : Prop :=
 Calls P 100 ⟨[.slice a0 a1 a2, .string byv]⟩ w fun e wv =>
 ∃ t7, e = .returned (.string t7) /\
 R (.string t7) wv
theorem impl_Join_ret {a : Option Addr} {a0 a1 : Nat} {a2 : ByteArray} (h : impl_Join a a0 a1 a2 w R) : Ret P 56 [.slice a a0 a1, .string a2] w R := Ret.of_fsem Tryz.func56 rfl (Eq.mp (show _ = fsem P Tryz.f56 (fun k => []) _ R w from by kernel_rfl) h)
def impl_intCmp (x0 : Bool) (a0 : Option Addr) (a1 a2 : Nat) (y0 : Bool) (a3 : Option Addr) (a4 a5 : Nat) (w : World) (R : Value -> World -> Prop) : Prop :=
 ∀ r wv, New w (.cells ⟨[.bool x0, .slice a0 a1 a2]⟩ 33 (0, 0)) r wv ->
 ∀ a6 a7, New wv (.cells ⟨[.bool y0, .slice a3 a4 a5]⟩ 33 (0, 0)) a6 a7 ->
 ∃ a8 a9 aa ab, (∀ wv_2, Ext a7.drew wv_2 -> Loads P 33 ⟨r, 0, none⟩ (.agg #[.bool a8, .slice a9 aa ab]) wv_2) /\ ∃ ac ae af ag, (∀ wv_3, Ext a7.drew wv_3 -> Loads P 33 ⟨a6, 0, none⟩ (.agg #[.bool ac, .slice ae af ag]) wv_3) /\ Calls P 95 ⟨[.agg #[.bool ac, .slice ae af ag]]⟩ a7.drew fun e ah =>
 ∃ ai aj ak al, e = .returned (.agg #[.bool ai, .slice aj ak al]) /\
 Ext a7.drew ah /\ Calls P 70 ⟨[.agg #[.bool a8, .slice a9 aa ab], .agg #[.bool ai, .slice aj ak al]]⟩ ah fun am an =>
 ∃ ao ap aq ar, am = .returned (.agg #[.bool ao, .slice ap aq ar]) /\
 Calls P 64 ⟨[.agg #[.bool ao, .slice ap aq ar]]⟩ an fun au av =>
 ∃ t9, au = .returned (.int .i64 t9) /\
 R (.int .i64 t9) av
theorem impl_intCmp_ret {x0 : Bool} {a : Option Addr} {a0 a1 : Nat} {y0 : Bool} {a2 : Option Addr} {a3 a4 : Nat} (h : impl_intCmp x0 a a0 a1 y0 a2 a3 a4 w R) : Ret P 57 [.agg #[.bool x0, .slice a a0 a1], .agg #[.bool y0, .slice a2 a3 a4]] w R := Ret.of_fsem Tryz.func57 rfl (Eq.mp (show _ = fsem P Tryz.f57 (fun k => []) _ R w from by kernel_rfl) h)
def impl_Rat_num (r0 : Bool) (a0 : Option Addr) (a1 a2 : Nat) (a3 : Option Addr) (a4 a5 : Nat) (a6 : Option Addr) (a7 a8 : Nat) (w : World) (R : Value -> World -> Prop) : Prop :=
 ∀ r wv, New w (.cells ⟨[.bool r0, .slice a0 a1 a2, .slice a3 a4 a5]⟩ 35 (0, 0)) r wv ->
 ∀ a9 aa, New wv (.cells ⟨[.bool false, .slice none 0 0]⟩ 33 (0, 0)) a9 aa ->
 ∃ t7, (∀ wv_2, Ext aa.drew wv_2 -> Loads P 4 (((⟨r, 0, none⟩ : Addr).add 0).add 0) (.bool t7) wv_2) /\ ∃ ab ac ae, (∀ wv_3, Ext aa.drew wv_3 -> Loads P 31 (((⟨r, 0, none⟩ : Addr).add 0).add 1) (.slice ab ac ae) wv_3) /\ Calls P 72 ⟨[.slice ab ac ae, .slice a6 a7 a8]⟩ aa.drew fun e af =>
 ∃ ag ah ai, e = .returned (.slice ag ah ai) /\
 Ext aa.drew af /\ Calls P 101 ⟨[.bool t7, .slice ag ah ai]⟩ af fun aj ak =>
 ∃ al am an ao, aj = .returned (.agg #[.bool al, .slice am an ao]) /\
 ∃ wv_6, Stores P 33 ⟨a9, 0, none⟩ (.agg #[.bool al, .slice am an ao]) ak wv_6 /\
 ∃ r0_1 ap aq ar, Loads P 33 ⟨a9, 0, none⟩ (.agg #[.bool r0_1, .slice ap aq ar]) wv_6 /\ R (.agg #[.bool r0_1, .slice ap aq ar]) wv_6
theorem impl_Rat_num_ret {r0 : Bool} {a : Option Addr} {a0 a1 : Nat} {a2 : Option Addr} {a3 a4 : Nat} {a5 : Option Addr} {a6 a7 : Nat} (h : impl_Rat_num r0 a a0 a1 a2 a3 a4 a5 a6 a7 w R) : Ret P 58 [.agg #[.bool r0, .slice a a0 a1, .slice a2 a3 a4], .slice a5 a6 a7] w R := Ret.of_fsem Tryz.func58 rfl (Eq.mp (show _ = fsem P Tryz.f58 (fun k => []) _ R w from by kernel_rfl) h)
def impl_DecOk (d0 : Bool) (a0 : Option Addr) (a1 a2 : Nat) (d2 : Int) (w : World) (R : Value -> World -> Prop) : Prop :=
 ∀ r wv, New w (.cells ⟨[.bool d0, .slice a0 a1 a2, .int .i64 d2]⟩ 46 (0, 0)) r wv ->
 ∃ a3 a4 a5 a6, Loads P 33 ((⟨r, 0, none⟩ : Addr).add 0) (.agg #[.bool a3, .slice a4 a5 a6]) wv /\ Calls P 44 ⟨[.agg #[.bool a3, .slice a4 a5 a6]]⟩ wv fun e a7 =>
 ∃ t5, e = .returned (.bool t5) /\
 (t5 = true ->
 ∃ a8 a9 aa, Loads P 31 (((⟨r, 0, none⟩ : Addr).add 0).add 1) (.slice a8 a9 aa) a7 /\ ((decide ((((a9 : Nat) : Int) : Int) <= 6)) = true ->
 ∃ ab, Loads P 3 ((⟨r, 0, none⟩ : Addr).add 2) (.int .i64 ab) a7 /\ Calls P 102 ⟨[.int .i64 ab]⟩ a7 fun ac ae =>
 ∃ af, ac = .returned (.bool af) /\
 R (.bool af) ae) /\
 ((decide ((((a9 : Nat) : Int) : Int) <= 6)) = false ->
 R (.bool false) a7)) /\
 (t5 = false ->
 (false = true ->
 ∃ ag, Loads P 3 ((⟨r, 0, none⟩ : Addr).add 2) (.int .i64 ag) a7 /\ Calls P 102 ⟨[.int .i64 ag]⟩ a7 fun ah ai =>
 ∃ aj, ah = .returned (.bool aj) /\
 R (.bool aj) ai) /\
 (false = false ->
 R (.bool false) a7))
theorem impl_DecOk_ret {d0 : Bool} {a : Option Addr} {a0 a1 : Nat} {d2 : Int} (h : impl_DecOk d0 a a0 a1 d2 w R) : Ret P 59 [.agg #[.bool d0, .slice a a0 a1, .int .i64 d2]] w R := Ret.of_fsem Tryz.func59 rfl (Eq.mp (show _ = fsem P Tryz.f59 (fun k => []) _ R w from by kernel_rfl) h)
def impl_reduce (num0 : Bool) (a0 : Option Addr) (a1 a2 : Nat) (a3 : Option Addr) (a4 a5 : Nat) (w : World) (R : Value -> World -> Prop) : Prop :=
 ∀ r wv, New w (.cells ⟨[.bool num0, .slice a0 a1 a2]⟩ 33 (0, 0)) r wv ->
 ∀ a6 a7, New wv (.cells ⟨[.bool false, .slice none 0 0, .slice none 0 0]⟩ 35 (0, 0)) a6 a7 ->
 ∃ a8 a9 aa, Loads P 31 ((⟨r, 0, none⟩ : Addr).add 1) (.slice a8 a9 aa) a7 /\ Calls P 103 ⟨[.slice a8 a9 aa, .slice a3 a4 a5]⟩ a7 fun e ab =>
 ∃ ac ae af, e = .returned (.slice ac ae af) /\
 ∃ ag ah ai, Loads P 31 ((⟨r, 0, none⟩ : Addr).add 1) (.slice ag ah ai) ab /\ Calls P 104 ⟨[.slice ag ah ai, .slice ac ae af]⟩ ab fun aj ak =>
 ∃ al am an ao ap aq, aj = .returned (.tuple #[.slice al am an, .slice ao ap aq]) /\
 Calls P 104 ⟨[.slice a3 a4 a5, .slice ac ae af]⟩ ak fun ar au =>
 ∃ av aw ax ay az b0, ar = .returned (.tuple #[.slice av aw ax, .slice ay az b0]) /\
 ((decide ((18 : Int) < ((am : Nat) : Int))) = true ->
 (true = true ->
 ∃ wv_5, Stores P 35 ⟨a6, 0, none⟩ (.agg #[.bool false, .slice none 0 0, .slice none 0 0]) au wv_5 /\
 ∃ r0 b1 b2 b3 b4 b5 b6, Loads P 35 ⟨a6, 0, none⟩ (.agg #[.bool r0, .slice b1 b2 b3, .slice b4 b5 b6]) wv_5 /\ R (.tuple #[.agg #[.bool r0, .slice b1 b2 b3, .slice b4 b5 b6], .bool false]) wv_5) /\
 (true = false ->
 ∃ b7, Loads P 4 ((⟨r, 0, none⟩ : Addr).add 0) (.bool b7) au /\ Calls P 101 ⟨[.bool b7, .slice al am an]⟩ au fun b8 b9 =>
 ∃ ba bb bc bd, b8 = .returned (.agg #[.bool ba, .slice bb bc bd]) /\
 ∃ wv_7, Stores P 35 ⟨a6, 0, none⟩ (.agg #[.bool ba, .slice bb bc bd, .slice av aw ax]) b9 wv_7 /\
 ∃ r0_1 be bf bg bh bi bj, Loads P 35 ⟨a6, 0, none⟩ (.agg #[.bool r0_1, .slice be bf bg, .slice bh bi bj]) wv_7 /\ R (.tuple #[.agg #[.bool r0_1, .slice be bf bg, .slice bh bi bj], .bool true]) wv_7)) /\
 ((decide ((18 : Int) < ((am : Nat) : Int))) = false ->
 ((decide ((18 : Int) < ((aw : Nat) : Int))) = true ->
 ∃ wv_8, Stores P 35 ⟨a6, 0, none⟩ (.agg #[.bool false, .slice none 0 0, .slice none 0 0]) au wv_8 /\
 ∃ r0_2 bk bl bm bn bo bp, Loads P 35 ⟨a6, 0, none⟩ (.agg #[.bool r0_2, .slice bk bl bm, .slice bn bo bp]) wv_8 /\ R (.tuple #[.agg #[.bool r0_2, .slice bk bl bm, .slice bn bo bp], .bool false]) wv_8) /\
 ((decide ((18 : Int) < ((aw : Nat) : Int))) = false ->
 ∃ bq, Loads P 4 ((⟨r, 0, none⟩ : Addr).add 0) (.bool bq) au /\ Calls P 101 ⟨[.bool bq, .slice al am an]⟩ au fun br bs =>
 ∃ bt bu bv bw, br = .returned (.agg #[.bool bt, .slice bu bv bw]) /\
 ∃ wv_10, Stores P 35 ⟨a6, 0, none⟩ (.agg #[.bool bt, .slice bu bv bw, .slice av aw ax]) bs wv_10 /\
 ∃ r0_3 bx bz c0 c1 c2 c3, Loads P 35 ⟨a6, 0, none⟩ (.agg #[.bool r0_3, .slice bx bz c0, .slice c1 c2 c3]) wv_10 /\ R (.tuple #[.agg #[.bool r0_3, .slice bx bz c0, .slice c1 c2 c3], .bool true]) wv_10))
theorem impl_reduce_ret {a : Bool} {a0 : Option Addr} {a1 a2 : Nat} {a3 : Option Addr} {a4 a5 : Nat} (h : impl_reduce a a0 a1 a2 a3 a4 a5 w R) : Ret P 60 [.agg #[.bool a, .slice a0 a1 a2], .slice a3 a4 a5] w R := Ret.of_fsem Tryz.func60 rfl (Eq.mp (show _ = fsem P Tryz.f60 (fun k => []) _ R w from by kernel_rfl) h)
def impl_natTen (k : Int) (w : World) (R : Value -> World -> Prop) : Prop :=
 (9 : Int) ≠ 0 /\ ∃ t6 : Int, t6 = IntKind.wrap .i64 (Int.tdiv k 9) /\ (9 : Int) ≠ 0 /\ ∃ t8 : Int, t8 = IntKind.wrap .i64 (Int.tdiv k 9) /\ ∃ t9 : Int, t9 = IntKind.wrap .i64 (t8 + 1) /\ (0 <= (t6 : Int) /\ (t6 : Int) <= t9 /\ ((8 : Nat) : Int) * t9 <= 281474976710656) /\
 ∀ r wv, New w (.cells ⟨zeroRow (.int .i64 0) (t9.toNat * 1)⟩ 3 (0, 0)) r wv ->
 (9 : Int) ≠ 0 /\ ∃ a0 : Int, a0 = Int.tmod k 9 /\ ∃ (a1 : Int -> Int -> World -> Prop) (mu : Int -> Int -> World -> Nat), a1 1 0 wv /\
 ∀ (a2 : Fr) (a3 : World) (top a4 : Int), a1 top a4 a3 ->
 ((decide ((a4 : Int) < a0)) = true ->
 ∃ a5 : Int, a5 = IntKind.wrap .i64 (top * 10) /\ ∃ a6 : Int, a6 = IntKind.wrap .i64 (a4 + 1) /\ a1 a5 a6 a3 /\ mu a5 a6 a3 < mu top a4 a3) /\
 ((decide ((a4 : Int) < a0)) = false ->
 ∀ a7 a8, New a3 (.cells ⟨[.int .i64 top]⟩ 3 (0, 0)) a7 a8 ->
 ∃ a9 aa ab ac, Appends P [31, 31] [(.slice (some ⟨r, 0, none⟩) t6.toNat t9.toNat), (.slice (some ⟨a7, 0, none⟩) 1 1)] (.slice a9 aa ab) a8 ac /\
 R (.slice a9 aa ab) ac)
theorem impl_natTen_ret {k : Int} (h : impl_natTen k w R) : Ret P 61 [.int .i64 k] w R := Ret.of_fsem Tryz.func61 rfl (Eq.mp (show _ = fsem P Tryz.f61 (fun k => cond (Nat.beq k 5) [(4, .one (.int .i64)), (13, .one (.int .i64))] ([])) _ R w from by kernel_rfl) h)
def impl_RatMake_j0 (r a0 a1 : Nat) (W : World) (R : Value -> World -> Prop) : Prop :=
 ∃ a2, (∀ wv_5, Ext W.drew wv_5 -> Loads P 4 ((⟨r, 0, none⟩ : Addr).add 0) (.bool a2) wv_5) /\ ∃ a3, (∀ wv_6, Ext W.drew wv_6 -> Loads P 4 ((⟨a0, 0, none⟩ : Addr).add 0) (.bool a3) wv_6) /\ ∃ a4 a5 a6, (∀ wv_7, Ext W.drew wv_7 -> Loads P 31 ((⟨r, 0, none⟩ : Addr).add 1) (.slice a4 a5 a6) wv_7) /\ Calls P 101 ⟨[(.bool (!(a2 == a3))), .slice a4 a5 a6]⟩ W.drew fun a7 a8 =>
 ∃ a9 aa ab ac, a7 = .returned (.agg #[.bool a9, .slice aa ab ac]) /\
 Ext W.drew a8 /\ ∃ ae af ag, (∀ wv_9, Ext W.drew wv_9 -> Loads P 31 ((⟨a0, 0, none⟩ : Addr).add 1) (.slice ae af ag) wv_9) /\ Calls P 60 ⟨[.agg #[.bool a9, .slice aa ab ac], .slice ae af ag]⟩ a8 fun ah ai =>
 ∃ aj ak al am an ao ap aq, ah = .returned (.tuple #[.agg #[.bool aj, .slice ak al am, .slice an ao ap], .bool aq]) /\
 ∃ wv_11, Stores P 35 ⟨a1, 0, none⟩ (.agg #[.bool aj, .slice ak al am, .slice an ao ap]) ai wv_11 /\
 ∃ r0_1 ar au av aw ax ay, Loads P 35 ⟨a1, 0, none⟩ (.agg #[.bool r0_1, .slice ar au av, .slice aw ax ay]) wv_11 /\ R (.tuple #[.agg #[.bool r0_1, .slice ar au av, .slice aw ax ay], .bool aq]) wv_11
def impl_RatMake (num0 : Bool) (a0 : Option Addr) (a1 a2 : Nat) (den0 : Bool) (a3 : Option Addr) (a4 a5 : Nat) (w : World) (R : Value -> World -> Prop) : Prop :=
 ∀ r wv, New w (.cells ⟨[.bool num0, .slice a0 a1 a2]⟩ 33 (0, 0)) r wv ->
 ∀ a6 a7, New wv (.cells ⟨[.bool den0, .slice a3 a4 a5]⟩ 33 (0, 0)) a6 a7 ->
 ∀ a8 a9, New a7 (.cells ⟨[.bool false, .slice none 0 0, .slice none 0 0]⟩ 35 (0, 0)) a8 a9 ->
 ∃ aa ab ac ae, Loads P 33 ⟨r, 0, none⟩ (.agg #[.bool aa, .slice ab ac ae]) a9 /\ ∃ af ag ah ai, Loads P 33 ⟨a6, 0, none⟩ (.agg #[.bool af, .slice ag ah ai]) a9 /\ Calls P 105 ⟨[.agg #[.bool aa, .slice ab ac ae], .agg #[.bool af, .slice ag ah ai]]⟩ a9 fun e aj =>
 ∃ t8, e = .returned (.bool t8) /\
 ((!t8) = true ->
 (true = true ->
 ∃ wv_4, Stores P 35 ⟨a8, 0, none⟩ (.agg #[.bool false, .slice none 0 0, .slice none 0 0]) aj wv_4 /\
 ∃ r0 ak al am an ao ap, Loads P 35 ⟨a8, 0, none⟩ (.agg #[.bool r0, .slice ak al am, .slice an ao ap]) wv_4 /\ R (.tuple #[.agg #[.bool r0, .slice ak al am, .slice an ao ap], .bool false]) wv_4) /\
 (true = false ->
 impl_RatMake_j0 r a6 a8 aj R)) /\
 ((!t8) = false ->
 ∃ aq ar au, Loads P 31 ((⟨a6, 0, none⟩ : Addr).add 1) (.slice aq ar au) aj /\ ((decide ((((ar : Nat) : Int) : Int) = 0)) = true ->
 ∃ wv_12, Stores P 35 ⟨a8, 0, none⟩ (.agg #[.bool false, .slice none 0 0, .slice none 0 0]) aj wv_12 /\
 ∃ r0_2 av aw ax ay az b0, Loads P 35 ⟨a8, 0, none⟩ (.agg #[.bool r0_2, .slice av aw ax, .slice ay az b0]) wv_12 /\ R (.tuple #[.agg #[.bool r0_2, .slice av aw ax, .slice ay az b0], .bool false]) wv_12) /\
 ((decide ((((ar : Nat) : Int) : Int) = 0)) = false ->
 impl_RatMake_j0 r a6 a8 aj R))
theorem impl_RatMake_ret {a : Bool} {a0 : Option Addr} {a1 a2 : Nat} {a3 : Bool} {a4 : Option Addr} {a5 a6 : Nat} (h : impl_RatMake a a0 a1 a2 a3 a4 a5 a6 w R) : Ret P 62 [.agg #[.bool a, .slice a0 a1 a2], .agg #[.bool a3, .slice a4 a5 a6]] w R := Ret.of_fsem Tryz.func62 rfl (Eq.mp (show _ = fsem P Tryz.f62 (fun k => []) _ R w from by kernel_rfl) h)
def impl_RatOk_j0 (r : Nat) (W : World) (R : Value -> World -> Prop) : Prop :=
 ∃ a0 a1 a2, Loads P 31 (((⟨r, 0, none⟩ : Addr).add 0).add 1) (.slice a0 a1 a2) W /\ ∃ a3 a4 a5, Loads P 31 ((⟨r, 0, none⟩ : Addr).add 2) (.slice a3 a4 a5) W /\ Calls P 103 ⟨[.slice a0 a1 a2, .slice a3 a4 a5]⟩ W fun a6 a7 =>
 ∃ a8 a9 aa, a6 = .returned (.slice a8 a9 aa) /\
 ((decide ((((a9 : Nat) : Int) : Int) = 1)) = true ->
 (0 <= (0 : Int) /\ (0 : Int) < (a9 : Nat)) /\ ptrS a8 fun ad => ∃ ab, Loads P 3 (ad.add (0 * 1)) (.int .i64 ab) a7 /\ R (.bool (decide ((ab : Int) = 1))) a7) /\
 ((decide ((((a9 : Nat) : Int) : Int) = 1)) = false ->
 R (.bool false) a7)
def impl_RatOk (r0 : Bool) (a0 : Option Addr) (a1 a2 : Nat) (a3 : Option Addr) (a4 a5 : Nat) (w : World) (R : Value -> World -> Prop) : Prop :=
 ∀ r wv, New w (.cells ⟨[.bool r0, .slice a0 a1 a2, .slice a3 a4 a5]⟩ 35 (0, 0)) r wv ->
 ∃ a6 a7 a8 a9, Loads P 33 ((⟨r, 0, none⟩ : Addr).add 0) (.agg #[.bool a6, .slice a7 a8 a9]) wv /\ Calls P 44 ⟨[.agg #[.bool a6, .slice a7 a8 a9]]⟩ wv fun e aa =>
 ∃ t6, e = .returned (.bool t6) /\
 ((!t6) = true ->
 (true = true ->
 (true = true ->
 (true = true ->
 (true = true ->
 R (.bool false) aa) /\
 (true = false ->
 impl_RatOk_j0 r aa R)) /\
 (true = false ->
 ∃ ab ac ae, Loads P 31 (((⟨r, 0, none⟩ : Addr).add 0).add 1) (.slice ab ac ae) aa /\ ((decide ((18 : Int) < ((ac : Nat) : Int))) = true ->
 R (.bool false) aa) /\
 ((decide ((18 : Int) < ((ac : Nat) : Int))) = false ->
 impl_RatOk_j0 r aa R))) /\
 (true = false ->
 ∃ af ag ah, Loads P 31 ((⟨r, 0, none⟩ : Addr).add 2) (.slice af ag ah) aa /\ ((decide ((18 : Int) < ((ag : Nat) : Int))) = true ->
 (true = true ->
 R (.bool false) aa) /\
 (true = false ->
 impl_RatOk_j0 r aa R)) /\
 ((decide ((18 : Int) < ((ag : Nat) : Int))) = false ->
 ∃ ai aj ak, Loads P 31 (((⟨r, 0, none⟩ : Addr).add 0).add 1) (.slice ai aj ak) aa /\ ((decide ((18 : Int) < ((aj : Nat) : Int))) = true ->
 R (.bool false) aa) /\
 ((decide ((18 : Int) < ((aj : Nat) : Int))) = false ->
 impl_RatOk_j0 r aa R)))) /\
 (true = false ->
 ∃ al am an, Loads P 31 ((⟨r, 0, none⟩ : Addr).add 2) (.slice al am an) aa /\ ((decide ((((am : Nat) : Int) : Int) = 0)) = true ->
 (true = true ->
 (true = true ->
 R (.bool false) aa) /\
 (true = false ->
 impl_RatOk_j0 r aa R)) /\
 (true = false ->
 ∃ ao ap aq, Loads P 31 (((⟨r, 0, none⟩ : Addr).add 0).add 1) (.slice ao ap aq) aa /\ ((decide ((18 : Int) < ((ap : Nat) : Int))) = true ->
 R (.bool false) aa) /\
 ((decide ((18 : Int) < ((ap : Nat) : Int))) = false ->
 impl_RatOk_j0 r aa R))) /\
 ((decide ((((am : Nat) : Int) : Int) = 0)) = false ->
 ∃ ar au av, Loads P 31 ((⟨r, 0, none⟩ : Addr).add 2) (.slice ar au av) aa /\ ((decide ((18 : Int) < ((au : Nat) : Int))) = true ->
 (true = true ->
 R (.bool false) aa) /\
 (true = false ->
 impl_RatOk_j0 r aa R)) /\
 ((decide ((18 : Int) < ((au : Nat) : Int))) = false ->
 ∃ aw ax ay, Loads P 31 (((⟨r, 0, none⟩ : Addr).add 0).add 1) (.slice aw ax ay) aa /\ ((decide ((18 : Int) < ((ax : Nat) : Int))) = true ->
 R (.bool false) aa) /\
 ((decide ((18 : Int) < ((ax : Nat) : Int))) = false ->
 impl_RatOk_j0 r aa R))))) /\
 ((!t6) = false ->
 ∃ az b0 b1, Loads P 31 ((⟨r, 0, none⟩ : Addr).add 2) (.slice az b0 b1) aa /\ Calls P 91 ⟨[.slice az b0 b1]⟩ aa fun b2 b3 =>
 ∃ b4, b2 = .returned (.bool b4) /\
 ((!b4) = true ->
 (true = true ->
 (true = true ->
 (true = true ->
 R (.bool false) b3) /\
 (true = false ->
 impl_RatOk_j0 r b3 R)) /\
 (true = false ->
 ∃ b5 b6 b7, Loads P 31 (((⟨r, 0, none⟩ : Addr).add 0).add 1) (.slice b5 b6 b7) b3 /\ ((decide ((18 : Int) < ((b6 : Nat) : Int))) = true ->
 R (.bool false) b3) /\
 ((decide ((18 : Int) < ((b6 : Nat) : Int))) = false ->
 impl_RatOk_j0 r b3 R))) /\
 (true = false ->
 ∃ b8 b9 ba, Loads P 31 ((⟨r, 0, none⟩ : Addr).add 2) (.slice b8 b9 ba) b3 /\ ((decide ((18 : Int) < ((b9 : Nat) : Int))) = true ->
 (true = true ->
 R (.bool false) b3) /\
 (true = false ->
 impl_RatOk_j0 r b3 R)) /\
 ((decide ((18 : Int) < ((b9 : Nat) : Int))) = false ->
 ∃ bb bc bd, Loads P 31 (((⟨r, 0, none⟩ : Addr).add 0).add 1) (.slice bb bc bd) b3 /\ ((decide ((18 : Int) < ((bc : Nat) : Int))) = true ->
 R (.bool false) b3) /\
 ((decide ((18 : Int) < ((bc : Nat) : Int))) = false ->
 impl_RatOk_j0 r b3 R)))) /\
 ((!b4) = false ->
 ∃ be bf bg, Loads P 31 ((⟨r, 0, none⟩ : Addr).add 2) (.slice be bf bg) b3 /\ ((decide ((((bf : Nat) : Int) : Int) = 0)) = true ->
 (true = true ->
 (true = true ->
 R (.bool false) b3) /\
 (true = false ->
 impl_RatOk_j0 r b3 R)) /\
 (true = false ->
 ∃ bh bi bj, Loads P 31 (((⟨r, 0, none⟩ : Addr).add 0).add 1) (.slice bh bi bj) b3 /\ ((decide ((18 : Int) < ((bi : Nat) : Int))) = true ->
 R (.bool false) b3) /\
 ((decide ((18 : Int) < ((bi : Nat) : Int))) = false ->
 impl_RatOk_j0 r b3 R))) /\
 ((decide ((((bf : Nat) : Int) : Int) = 0)) = false ->
 ∃ bk bl bm, Loads P 31 ((⟨r, 0, none⟩ : Addr).add 2) (.slice bk bl bm) b3 /\ ((decide ((18 : Int) < ((bl : Nat) : Int))) = true ->
 (true = true ->
 R (.bool false) b3) /\
 (true = false ->
 impl_RatOk_j0 r b3 R)) /\
 ((decide ((18 : Int) < ((bl : Nat) : Int))) = false ->
 ∃ bn bo bp, Loads P 31 (((⟨r, 0, none⟩ : Addr).add 0).add 1) (.slice bn bo bp) b3 /\ ((decide ((18 : Int) < ((bo : Nat) : Int))) = true ->
 R (.bool false) b3) /\
 ((decide ((18 : Int) < ((bo : Nat) : Int))) = false ->
 impl_RatOk_j0 r b3 R)))))
theorem impl_RatOk_ret {r0 : Bool} {a : Option Addr} {a0 a1 : Nat} {a2 : Option Addr} {a3 a4 : Nat} (h : impl_RatOk r0 a a0 a1 a2 a3 a4 w R) : Ret P 63 [.agg #[.bool r0, .slice a a0 a1, .slice a2 a3 a4]] w R := Ret.of_fsem Tryz.func63 rfl (Eq.mp (show _ = fsem P Tryz.f63 (fun k => []) _ R w from by kernel_rfl) h)
def impl_intSign (x0 : Bool) (a0 : Option Addr) (a1 a2 : Nat) (w : World) (R : Value -> World -> Prop) : Prop :=
 ∀ r wv, New w (.cells ⟨[.bool x0, .slice a0 a1 a2]⟩ 33 (0, 0)) r wv ->
 ∃ a3 a4 a5, Loads P 31 ((⟨r, 0, none⟩ : Addr).add 1) (.slice a3 a4 a5) wv /\ ((decide ((((a4 : Nat) : Int) : Int) = 0)) = true ->
 R (.int .i64 0) wv) /\
 ((decide ((((a4 : Nat) : Int) : Int) = 0)) = false ->
 ∃ a6, Loads P 4 ((⟨r, 0, none⟩ : Addr).add 0) (.bool a6) wv /\ (a6 = true ->
 R (.int .i64 (-1)) wv) /\
 (a6 = false ->
 R (.int .i64 1) wv))
theorem impl_intSign_ret {x0 : Bool} {a : Option Addr} {a0 a1 : Nat} (h : impl_intSign x0 a a0 a1 w R) : Ret P 64 [.agg #[.bool x0, .slice a a0 a1]] w R := Ret.of_fsem Tryz.func64 rfl (Eq.mp (show _ = fsem P Tryz.f64 (fun k => []) _ R w from by kernel_rfl) h)
def impl_moneyOf (cur : ByteArray) (units0 : Bool) (a0 : Option Addr) (a1 a2 : Nat) (w : World) (R : Value -> World -> Prop) : Prop :=
 ∀ r wv, New w (.cells ⟨[.bool units0, .slice a0 a1 a2]⟩ 33 (0, 0)) r wv ->
 ∀ a3 a4, New wv (.cells ⟨[.string ByteArray.empty, .bool false, .slice none 0 0]⟩ 52 (0, 0)) a3 a4 ->
 ∃ a5 a6 a7 a8, Loads P 33 ⟨r, 0, none⟩ (.agg #[.bool a5, .slice a6 a7 a8]) a4 /\ ∀ a9 aa, New a4 (.cells ⟨[.string ByteArray.empty, .bool false, .slice none 0 0]⟩ 52 (0, 0)) a9 aa ->
 ∃ wv_3, Stores P 52 ⟨a9, 0, none⟩ (.agg #[.string cur, .bool a5, .slice a6 a7 a8]) aa wv_3 /\
 ∃ ab ac ae af ag, Loads P 52 ⟨a9, 0, none⟩ (.agg #[.string ab, .bool ac, .slice ae af ag]) wv_3 /\ Calls P 66 ⟨[.agg #[.string ab, .bool ac, .slice ae af ag]]⟩ wv_3 fun e ah =>
 ∃ ai, e = .returned (.bool ai) /\
 (ai = true ->
 ∃ aj ak al am an, Loads P 52 ⟨a9, 0, none⟩ (.agg #[.string aj, .bool ak, .slice al am an]) ah /\ ∃ wv_5, Stores P 52 ⟨a3, 0, none⟩ (.agg #[.string aj, .bool ak, .slice al am an]) ah wv_5 /\
 ∃ r0 r1 ao ap aq, Loads P 52 ⟨a3, 0, none⟩ (.agg #[.string r0, .bool r1, .slice ao ap aq]) wv_5 /\ R (.tuple #[.agg #[.string r0, .bool r1, .slice ao ap aq], .bool true]) wv_5) /\
 (ai = false ->
 ∃ wv_6, Stores P 52 ⟨a3, 0, none⟩ (.agg #[.string ByteArray.empty, .bool false, .slice none 0 0]) ah wv_6 /\
 ∃ r0_1 r1_1 ar au av, Loads P 52 ⟨a3, 0, none⟩ (.agg #[.string r0_1, .bool r1_1, .slice ar au av]) wv_6 /\ R (.tuple #[.agg #[.string r0_1, .bool r1_1, .slice ar au av], .bool false]) wv_6)
theorem impl_moneyOf_ret {a : ByteArray} {a0 : Bool} {a1 : Option Addr} {a2 a3 : Nat} (h : impl_moneyOf a a0 a1 a2 a3 w R) : Ret P 65 [.string a, .agg #[.bool a0, .slice a1 a2 a3]] w R := Ret.of_fsem Tryz.func65 rfl (Eq.mp (show _ = fsem P Tryz.f65 (fun k => []) _ R w from by kernel_rfl) h)
def impl_MoneyOk (m0 : ByteArray) (m1 : Bool) (a0 : Option Addr) (a1 a2 : Nat) (w : World) (R : Value -> World -> Prop) : Prop :=
 ∀ r wv, New w (.cells ⟨[.string m0, .bool m1, .slice a0 a1 a2]⟩ 52 (0, 0)) r wv ->
 ∃ t4, Loads P 9 ((⟨r, 0, none⟩ : Addr).add 0) (.string t4) wv /\ Calls P 106 ⟨[.string t4]⟩ wv fun e a3 =>
 ∃ t5, e = .returned (.bool t5) /\
 (t5 = true ->
 ∃ a4 a5 a6 a7, Loads P 33 ((⟨r, 0, none⟩ : Addr).add 1) (.agg #[.bool a4, .slice a5 a6 a7]) a3 /\ Calls P 44 ⟨[.agg #[.bool a4, .slice a5 a6 a7]]⟩ a3 fun a8 a9 =>
 ∃ t9, a8 = .returned (.bool t9) /\
 (t9 = true ->
 ∃ aa ab ac, Loads P 31 (((⟨r, 0, none⟩ : Addr).add 1).add 1) (.slice aa ab ac) a9 /\ R (.bool (decide ((((ab : Nat) : Int) : Int) <= 4))) a9) /\
 (t9 = false ->
 R (.bool false) a9)) /\
 (t5 = false ->
 (false = true ->
 ∃ ae af ag, Loads P 31 (((⟨r, 0, none⟩ : Addr).add 1).add 1) (.slice ae af ag) a3 /\ R (.bool (decide ((((af : Nat) : Int) : Int) <= 4))) a3) /\
 (false = false ->
 R (.bool false) a3))
theorem impl_MoneyOk_ret {m0 : ByteArray} {m1 : Bool} {a : Option Addr} {a0 a1 : Nat} (h : impl_MoneyOk m0 m1 a a0 a1 w R) : Ret P 66 [.agg #[.string m0, .bool m1, .slice a a0 a1]] w R := Ret.of_fsem Tryz.func66 rfl (Eq.mp (show _ = fsem P Tryz.f66 (fun k => []) _ R w from by kernel_rfl) h)
def impl_RatMoney (cur : ByteArray) (r0 : Bool) (a0 : Option Addr) (a1 a2 : Nat) (a3 : Option Addr) (a4 a5 : Nat) (mode : Int) (w : World) (R : Value -> World -> Prop) : Prop :=
 ∀ r wv, New w (.cells ⟨[.bool r0, .slice a0 a1 a2, .slice a3 a4 a5]⟩ 35 (0, 0)) r wv ->
 ∀ a6 a7, New wv (.cells ⟨[.string ByteArray.empty, .bool false, .slice none 0 0]⟩ 52 (0, 0)) a6 a7 ->
 ∀ a8 a9, New a7 (.cells ⟨[.bool false, .slice none 0 0, .slice none 0 0]⟩ 35 (0, 0)) a8 a9 ->
 ∃ aa ab ac ae af ag ah, Loads P 35 ⟨r, 0, none⟩ (.agg #[.bool aa, .slice ab ac ae, .slice af ag ah]) a9 /\ Calls P 107 ⟨[.agg #[.bool aa, .slice ab ac ae, .slice af ag ah], .int .i64 mode]⟩ a9 fun e ai =>
 ∃ aj ak al am an ao ap aq ar au av aw, e = .returned (.tuple #[.agg #[.bool aj, .slice ak al am], .agg #[.bool an, .slice ao ap aq, .slice ar au av], .bool aw]) /\
 ∀ ax ay, New ai (.cells ⟨[.bool false, .slice none 0 0]⟩ 33 (0, 0)) ax ay ->
 ∀ az b0, New ay (.cells ⟨[.bool false, .slice none 0 0, .slice none 0 0]⟩ 35 (0, 0)) az b0 ->
 ∃ wv_6, Stores P 33 ⟨ax, 0, none⟩ (.agg #[.bool aj, .slice ak al am]) b0 wv_6 /\
 ∃ wv_7, Stores P 35 ⟨az, 0, none⟩ (.agg #[.bool an, .slice ao ap aq, .slice ar au av]) wv_6 wv_7 /\
 ((!aw) = true ->
 ∃ wv_8, Stores P 52 ⟨a6, 0, none⟩ (.agg #[.string ByteArray.empty, .bool false, .slice none 0 0]) wv_7 wv_8 /\
 ∃ wv_9, Stores P 35 ⟨a8, 0, none⟩ (.agg #[.bool false, .slice none 0 0, .slice none 0 0]) wv_8 wv_9 /\
 ∃ r0_1 r1 b1 b2 b3, Loads P 52 ⟨a6, 0, none⟩ (.agg #[.string r0_1, .bool r1, .slice b1 b2 b3]) wv_9 /\ ∃ r0_2 b4 b5 b6 b7 b8 b9, Loads P 35 ⟨a8, 0, none⟩ (.agg #[.bool r0_2, .slice b4 b5 b6, .slice b7 b8 b9]) wv_9 /\ R (.tuple #[.agg #[.string r0_1, .bool r1, .slice b1 b2 b3], .agg #[.bool r0_2, .slice b4 b5 b6, .slice b7 b8 b9], .bool false]) wv_9) /\
 ((!aw) = false ->
 ∃ ba bb bc bd, Loads P 33 ⟨ax, 0, none⟩ (.agg #[.bool ba, .slice bb bc bd]) wv_7 /\ Calls P 65 ⟨[.string cur, .agg #[.bool ba, .slice bb bc bd]]⟩ wv_7 fun be bf =>
 ∃ bg bh bi bj bk bl, be = .returned (.tuple #[.agg #[.string bg, .bool bh, .slice bi bj bk], .bool bl]) /\
 ∀ bm bn, New bf (.cells ⟨[.string ByteArray.empty, .bool false, .slice none 0 0]⟩ 52 (0, 0)) bm bn ->
 ∃ wv_12, Stores P 52 ⟨bm, 0, none⟩ (.agg #[.string bg, .bool bh, .slice bi bj bk]) bn wv_12 /\
 ((!bl) = true ->
 ∃ wv_13, Stores P 52 ⟨a6, 0, none⟩ (.agg #[.string ByteArray.empty, .bool false, .slice none 0 0]) wv_12 wv_13 /\
 ∃ wv_14, Stores P 35 ⟨a8, 0, none⟩ (.agg #[.bool false, .slice none 0 0, .slice none 0 0]) wv_13 wv_14 /\
 ∃ r0_3 r1_1 bo bp bq, Loads P 52 ⟨a6, 0, none⟩ (.agg #[.string r0_3, .bool r1_1, .slice bo bp bq]) wv_14 /\ ∃ r0_4 br bs bt bu bv bw, Loads P 35 ⟨a8, 0, none⟩ (.agg #[.bool r0_4, .slice br bs bt, .slice bu bv bw]) wv_14 /\ R (.tuple #[.agg #[.string r0_3, .bool r1_1, .slice bo bp bq], .agg #[.bool r0_4, .slice br bs bt, .slice bu bv bw], .bool false]) wv_14) /\
 ((!bl) = false ->
 ∃ blks : List Nat, ∃ bx bz c0 c1 c2, (∀ wv_15, EX blks wv_12.drew wv_15 -> Loads P 52 ⟨bm, 0, none⟩ (.agg #[.string bx, .bool bz, .slice c0 c1 c2]) wv_15) /\ ∃ c3 c4 c5 c6 c7 c8 c9, (∀ wv_16, EX blks wv_12.drew wv_16 -> Loads P 35 ⟨az, 0, none⟩ (.agg #[.bool c3, .slice c4 c5 c6, .slice c7 c8 c9]) wv_16) /\ ∃ wv_17, Stores P 52 ⟨a6, 0, none⟩ (.agg #[.string bx, .bool bz, .slice c0 c1 c2]) wv_12.drew wv_17 /\
 EX blks wv_12.drew wv_17 /\ ∃ wv_18, Stores P 35 ⟨a8, 0, none⟩ (.agg #[.bool c3, .slice c4 c5 c6, .slice c7 c8 c9]) wv_17 wv_18 /\
 ∃ r0_5 r1_2 ca cb cc, Loads P 52 ⟨a6, 0, none⟩ (.agg #[.string r0_5, .bool r1_2, .slice ca cb cc]) wv_18 /\ ∃ r0_6 cd ce cf cg ch ci, Loads P 35 ⟨a8, 0, none⟩ (.agg #[.bool r0_6, .slice cd ce cf, .slice cg ch ci]) wv_18 /\ R (.tuple #[.agg #[.string r0_5, .bool r1_2, .slice ca cb cc], .agg #[.bool r0_6, .slice cd ce cf, .slice cg ch ci], .bool true]) wv_18))
theorem impl_RatMoney_ret {a : ByteArray} {r0 : Bool} {a0 : Option Addr} {a1 a2 : Nat} {a3 : Option Addr} {a4 a5 : Nat} {a6 : Int} (h : impl_RatMoney a r0 a0 a1 a2 a3 a4 a5 a6 w R) : Ret P 67 [.string a, .agg #[.bool r0, .slice a0 a1 a2, .slice a3 a4 a5], .int .i64 a6] w R := Ret.of_fsem Tryz.func67 rfl (Eq.mp (show _ = fsem P Tryz.f67 (fun k => []) _ R w from by kernel_rfl) h)
def impl_MoneySub (m0 : ByteArray) (m1 : Bool) (a0 : Option Addr) (a1 a2 : Nat) (n0 : ByteArray) (n1 : Bool) (a3 : Option Addr) (a4 a5 : Nat) (w : World) (R : Value -> World -> Prop) : Prop :=
 ∀ r wv, New w (.cells ⟨[.string m0, .bool m1, .slice a0 a1 a2]⟩ 52 (0, 0)) r wv ->
 ∀ a6 a7, New wv (.cells ⟨[.string n0, .bool n1, .slice a3 a4 a5]⟩ 52 (0, 0)) a6 a7 ->
 ∀ a8 a9, New a7 (.cells ⟨[.string ByteArray.empty, .bool false, .slice none 0 0]⟩ 52 (0, 0)) a8 a9 ->
 ∃ aa ab ac ae af, Loads P 52 ⟨r, 0, none⟩ (.agg #[.string aa, .bool ab, .slice ac ae af]) a9 /\ ∃ ag ah ai aj ak, Loads P 52 ⟨a6, 0, none⟩ (.agg #[.string ag, .bool ah, .slice ai aj ak]) a9 /\ Calls P 69 ⟨[.agg #[.string aa, .bool ab, .slice ac ae af], .agg #[.string ag, .bool ah, .slice ai aj ak]]⟩ a9 fun e al =>
 ∃ t8, e = .returned (.bool t8) /\
 ((!t8) = true ->
 ∃ wv_4, Stores P 52 ⟨a8, 0, none⟩ (.agg #[.string ByteArray.empty, .bool false, .slice none 0 0]) al wv_4 /\
 ∃ r0 r1 am an ao, Loads P 52 ⟨a8, 0, none⟩ (.agg #[.string r0, .bool r1, .slice am an ao]) wv_4 /\ R (.tuple #[.agg #[.string r0, .bool r1, .slice am an ao], .bool false]) wv_4) /\
 ((!t8) = false ->
 ∃ ap, (∀ wv_5, Ext al.drew wv_5 -> Loads P 9 ((⟨r, 0, none⟩ : Addr).add 0) (.string ap) wv_5) /\ ∃ aq ar au av, (∀ wv_6, Ext al.drew wv_6 -> Loads P 33 ((⟨r, 0, none⟩ : Addr).add 1) (.agg #[.bool aq, .slice ar au av]) wv_6) /\ ∃ aw ax ay az, (∀ wv_7, Ext al.drew wv_7 -> Loads P 33 ((⟨a6, 0, none⟩ : Addr).add 1) (.agg #[.bool aw, .slice ax ay az]) wv_7) /\ Calls P 95 ⟨[.agg #[.bool aw, .slice ax ay az]]⟩ al.drew fun b0 b1 =>
 ∃ b2 b3 b4 b5, b0 = .returned (.agg #[.bool b2, .slice b3 b4 b5]) /\
 Ext al.drew b1 /\ Calls P 70 ⟨[.agg #[.bool aq, .slice ar au av], .agg #[.bool b2, .slice b3 b4 b5]]⟩ b1 fun b6 b7 =>
 ∃ b8 b9 ba bb, b6 = .returned (.agg #[.bool b8, .slice b9 ba bb]) /\
 Ext b1 b7 /\ Calls P 65 ⟨[.string ap, .agg #[.bool b8, .slice b9 ba bb]]⟩ b7 fun bc bd =>
 ∃ be bf bg bh bi bj, bc = .returned (.tuple #[.agg #[.string be, .bool bf, .slice bg bh bi], .bool bj]) /\
 ∃ wv_11, Stores P 52 ⟨a8, 0, none⟩ (.agg #[.string be, .bool bf, .slice bg bh bi]) bd wv_11 /\
 ∃ r0_1 r1_1 bk bl bm, Loads P 52 ⟨a8, 0, none⟩ (.agg #[.string r0_1, .bool r1_1, .slice bk bl bm]) wv_11 /\ R (.tuple #[.agg #[.string r0_1, .bool r1_1, .slice bk bl bm], .bool bj]) wv_11)
theorem impl_MoneySub_ret {m0 : ByteArray} {m1 : Bool} {a : Option Addr} {a0 a1 : Nat} {n0 : ByteArray} {n1 : Bool} {a2 : Option Addr} {a3 a4 : Nat} (h : impl_MoneySub m0 m1 a a0 a1 n0 n1 a2 a3 a4 w R) : Ret P 68 [.agg #[.string m0, .bool m1, .slice a a0 a1], .agg #[.string n0, .bool n1, .slice a2 a3 a4]] w R := Ret.of_fsem Tryz.func68 rfl (Eq.mp (show _ = fsem P Tryz.f68 (fun k => []) _ R w from by kernel_rfl) h)
def impl_alike (m0 : ByteArray) (m1 : Bool) (a0 : Option Addr) (a1 a2 : Nat) (n0 : ByteArray) (n1 : Bool) (a3 : Option Addr) (a4 a5 : Nat) (w : World) (R : Value -> World -> Prop) : Prop :=
 ∀ r wv, New w (.cells ⟨[.string m0, .bool m1, .slice a0 a1 a2]⟩ 52 (0, 0)) r wv ->
 ∀ a6 a7, New wv (.cells ⟨[.string n0, .bool n1, .slice a3 a4 a5]⟩ 52 (0, 0)) a6 a7 ->
 ∃ a8 a9 aa ab ac, Loads P 52 ⟨r, 0, none⟩ (.agg #[.string a8, .bool a9, .slice aa ab ac]) a7 /\ Calls P 66 ⟨[.agg #[.string a8, .bool a9, .slice aa ab ac]]⟩ a7 fun e ae =>
 ∃ t6, e = .returned (.bool t6) /\
 (t6 = true ->
 ∃ af ag ah ai aj, Loads P 52 ⟨a6, 0, none⟩ (.agg #[.string af, .bool ag, .slice ah ai aj]) ae /\ Calls P 66 ⟨[.agg #[.string af, .bool ag, .slice ah ai aj]]⟩ ae fun ak al =>
 ∃ t9, ak = .returned (.bool t9) /\
 (t9 = true ->
 ∃ am, Loads P 9 ((⟨r, 0, none⟩ : Addr).add 0) (.string am) al /\ ∃ an, Loads P 9 ((⟨a6, 0, none⟩ : Addr).add 0) (.string an) al /\ R (.bool (decide (am = an))) al) /\
 (t9 = false ->
 R (.bool false) al)) /\
 (t6 = false ->
 (false = true ->
 ∃ ao, Loads P 9 ((⟨r, 0, none⟩ : Addr).add 0) (.string ao) ae /\ ∃ ap, Loads P 9 ((⟨a6, 0, none⟩ : Addr).add 0) (.string ap) ae /\ R (.bool (decide (ao = ap))) ae) /\
 (false = false ->
 R (.bool false) ae))
theorem impl_alike_ret {m0 : ByteArray} {m1 : Bool} {a : Option Addr} {a0 a1 : Nat} {n0 : ByteArray} {n1 : Bool} {a2 : Option Addr} {a3 a4 : Nat} (h : impl_alike m0 m1 a a0 a1 n0 n1 a2 a3 a4 w R) : Ret P 69 [.agg #[.string m0, .bool m1, .slice a a0 a1], .agg #[.string n0, .bool n1, .slice a2 a3 a4]] w R := Ret.of_fsem Tryz.func69 rfl (Eq.mp (show _ = fsem P Tryz.f69 (fun k => []) _ R w from by kernel_rfl) h)
def impl_intAdd_j0 (r a0 a1 : Nat) (W : World) (R : Value -> World -> Prop) : Prop :=
 ∃ a2, (∀ wv_12, Ext W.drew wv_12 -> Loads P 4 ((⟨r, 0, none⟩ : Addr).add 0) (.bool a2) wv_12) /\ ∃ a3 a4 a5, (∀ wv_13, Ext W.drew wv_13 -> Loads P 31 ((⟨r, 0, none⟩ : Addr).add 1) (.slice a3 a4 a5) wv_13) /\ ∃ a6 a7 a8, (∀ wv_14, Ext W.drew wv_14 -> Loads P 31 ((⟨a0, 0, none⟩ : Addr).add 1) (.slice a6 a7 a8) wv_14) /\ Calls P 49 ⟨[.slice a3 a4 a5, .slice a6 a7 a8]⟩ W.drew fun a9 aa =>
 ∃ ab ac ae, a9 = .returned (.slice ab ac ae) /\
 Ext W.drew aa /\ Calls P 101 ⟨[.bool a2, .slice ab ac ae]⟩ aa fun af ag =>
 ∃ ah ai aj ak, af = .returned (.agg #[.bool ah, .slice ai aj ak]) /\
 ∃ wv_17, Stores P 33 ⟨a1, 0, none⟩ (.agg #[.bool ah, .slice ai aj ak]) ag wv_17 /\
 ∃ r0_1 al am an, Loads P 33 ⟨a1, 0, none⟩ (.agg #[.bool r0_1, .slice al am an]) wv_17 /\ R (.agg #[.bool r0_1, .slice al am an]) wv_17
def impl_intAdd (x0 : Bool) (a0 : Option Addr) (a1 a2 : Nat) (y0 : Bool) (a3 : Option Addr) (a4 a5 : Nat) (w : World) (R : Value -> World -> Prop) : Prop :=
 ∀ r wv, New w (.cells ⟨[.bool x0, .slice a0 a1 a2]⟩ 33 (0, 0)) r wv ->
 ∀ a6 a7, New wv (.cells ⟨[.bool y0, .slice a3 a4 a5]⟩ 33 (0, 0)) a6 a7 ->
 ∀ a8 a9, New a7 (.cells ⟨[.bool false, .slice none 0 0]⟩ 33 (0, 0)) a8 a9 ->
 ∃ t6, Loads P 4 ((⟨r, 0, none⟩ : Addr).add 0) (.bool t6) a9 /\ ∃ t8, Loads P 4 ((⟨a6, 0, none⟩ : Addr).add 0) (.bool t8) a9 /\ ((t6 == t8) = true ->
 ∃ aa, (∀ wv_3, Ext a9.drew wv_3 -> Loads P 4 ((⟨r, 0, none⟩ : Addr).add 0) (.bool aa) wv_3) /\ ∃ ab ac ae, (∀ wv_4, Ext a9.drew wv_4 -> Loads P 31 ((⟨r, 0, none⟩ : Addr).add 1) (.slice ab ac ae) wv_4) /\ ∃ af ag ah, (∀ wv_5, Ext a9.drew wv_5 -> Loads P 31 ((⟨a6, 0, none⟩ : Addr).add 1) (.slice af ag ah) wv_5) /\ Calls P 108 ⟨[.slice ab ac ae, .slice af ag ah]⟩ a9.drew fun e ai =>
 ∃ aj ak al, e = .returned (.slice aj ak al) /\
 Ext a9.drew ai /\ Calls P 101 ⟨[.bool aa, .slice aj ak al]⟩ ai fun am an =>
 ∃ ao ap aq ar, am = .returned (.agg #[.bool ao, .slice ap aq ar]) /\
 ∃ wv_8, Stores P 33 ⟨a8, 0, none⟩ (.agg #[.bool ao, .slice ap aq ar]) an wv_8 /\
 ∃ r0 au av aw, Loads P 33 ⟨a8, 0, none⟩ (.agg #[.bool r0, .slice au av aw]) wv_8 /\ R (.agg #[.bool r0, .slice au av aw]) wv_8) /\
 ((t6 == t8) = false ->
 ∃ ax ay az, Loads P 31 ((⟨r, 0, none⟩ : Addr).add 1) (.slice ax ay az) a9 /\ ∃ b0 b1 b2, Loads P 31 ((⟨a6, 0, none⟩ : Addr).add 1) (.slice b0 b1 b2) a9 /\ Calls P 47 ⟨[.slice ax ay az, .slice b0 b1 b2]⟩ a9 fun b3 b4 =>
 ∃ b5, b3 = .returned (.int .i64 b5) /\
 ((decide ((b5 : Int) < 0)) = true ->
 ∃ b6 b7 b8 b9, Loads P 33 ⟨a6, 0, none⟩ (.agg #[.bool b6, .slice b7 b8 b9]) b4 /\ ∃ ba bb bc bd, Loads P 33 ⟨r, 0, none⟩ (.agg #[.bool ba, .slice bb bc bd]) b4 /\ ∃ wv_10, Stores P 33 ⟨r, 0, none⟩ (.agg #[.bool b6, .slice b7 b8 b9]) b4 wv_10 /\
 ∃ wv_11, Stores P 33 ⟨a6, 0, none⟩ (.agg #[.bool ba, .slice bb bc bd]) wv_10 wv_11 /\
 impl_intAdd_j0 r a6 a8 wv_11 R) /\
 ((decide ((b5 : Int) < 0)) = false ->
 impl_intAdd_j0 r a6 a8 b4 R))
theorem impl_intAdd_ret {x0 : Bool} {a : Option Addr} {a0 a1 : Nat} {y0 : Bool} {a2 : Option Addr} {a3 a4 : Nat} (h : impl_intAdd x0 a a0 a1 y0 a2 a3 a4 w R) : Ret P 70 [.agg #[.bool x0, .slice a a0 a1], .agg #[.bool y0, .slice a2 a3 a4]] w R := Ret.of_fsem Tryz.func70 rfl (Eq.mp (show _ = fsem P Tryz.f70 (fun k => []) _ R w from by kernel_rfl) h)
def impl_intSame (x0 : Bool) (a0 : Option Addr) (a1 a2 : Nat) (y0 : Bool) (a3 : Option Addr) (a4 a5 : Nat) (w : World) (R : Value -> World -> Prop) : Prop :=
 ∀ r wv, New w (.cells ⟨[.bool x0, .slice a0 a1 a2]⟩ 33 (0, 0)) r wv ->
 ∀ a6 a7, New wv (.cells ⟨[.bool y0, .slice a3 a4 a5]⟩ 33 (0, 0)) a6 a7 ->
 ∃ t6, Loads P 4 ((⟨r, 0, none⟩ : Addr).add 0) (.bool t6) a7 /\ ∃ t8, Loads P 4 ((⟨a6, 0, none⟩ : Addr).add 0) (.bool t8) a7 /\ ((t6 == t8) = true ->
 ∃ a8 a9 aa, Loads P 31 ((⟨r, 0, none⟩ : Addr).add 1) (.slice a8 a9 aa) a7 /\ ∃ ab ac ae, Loads P 31 ((⟨a6, 0, none⟩ : Addr).add 1) (.slice ab ac ae) a7 /\ Calls P 109 ⟨[.slice a8 a9 aa, .slice ab ac ae]⟩ a7 fun e af =>
 ∃ ag, e = .returned (.bool ag) /\
 R (.bool ag) af) /\
 ((t6 == t8) = false ->
 R (.bool false) a7)
theorem impl_intSame_ret {x0 : Bool} {a : Option Addr} {a0 a1 : Nat} {y0 : Bool} {a2 : Option Addr} {a3 a4 : Nat} (h : impl_intSame x0 a a0 a1 y0 a2 a3 a4 w R) : Ret P 71 [.agg #[.bool x0, .slice a a0 a1], .agg #[.bool y0, .slice a2 a3 a4]] w R := Ret.of_fsem Tryz.func71 rfl (Eq.mp (show _ = fsem P Tryz.f71 (fun k => []) _ R w from by kernel_rfl) h)
def impl_natMul (a0 : Option Addr) (a1 a2 : Nat) (a3 : Option Addr) (a4 a5 : Nat) (w : World) (R : Value -> World -> Prop) : Prop :=
 ∃ a6 : Int, a6 = IntKind.wrap .i64 (((a1 : Nat) : Int) + ((a4 : Nat) : Int)) /\ ∃ a7 : Int, a7 = IntKind.wrap .i64 (a6 + 1) /\ (0 <= (a7 : Int) /\ (a7 : Int) <= a7 /\ ((8 : Nat) : Int) * a7 <= 281474976710656) /\
 ∀ r wv, New w (.cells ⟨zeroRow (.int .i64 0) (a7.toNat * 1)⟩ 3 (0, 0)) r wv ->
 ∃ (a8 : Int -> World -> Prop) (mu : Int -> World -> Nat), a8 0 wv /\
 ∀ (a9 : Fr) (aa : World) (ab : Int), a8 ab aa ->
 ((decide ((ab : Int) < ((a1 : Nat) : Int))) = true ->
 (0 <= (ab : Int) /\ (ab : Int) < (a1 : Nat)) /\ ptrS a0 fun ad => ∃ ac, Loads P 3 (ad.add (ab.toNat * 1)) (.int .i64 ac) aa /\ ∃ (ae : Int -> Int -> World -> Prop) (af : Int -> Int -> World -> Nat), ae 0 0 aa /\
 ∀ (ag : Fr) (ah : World) (carry ai : Int), ae carry ai ah ->
 ((decide ((ai : Int) < ((a4 : Nat) : Int))) = true ->
 (0 <= (ai : Int) /\ (ai : Int) < (a4 : Nat)) /\ ptrS a3 fun aj => ∃ ak, Loads P 3 (aj.add (ai.toNat * 1)) (.int .i64 ak) ah /\ ∃ al : Int, al = IntKind.wrap .i64 (ab + ai) /\ (0 <= (al : Int) /\ (al : Int) < (a7.toNat : Nat)) /\ ∃ am, Loads P 3 ((⟨r, 0, none⟩ : Addr).add (al.toNat * 1)) (.int .i64 am) ah /\ ∃ an : Int, an = IntKind.wrap .i64 (ac * ak) /\ ∃ ao : Int, ao = IntKind.wrap .i64 (am + an) /\ ∃ ap : Int, ap = IntKind.wrap .i64 (carry + ao) /\ ∃ aq : Int, aq = IntKind.wrap .i64 (ab + ai) /\ (1000000000 : Int) ≠ 0 /\ ∃ ar : Int, ar = Int.tmod ap 1000000000 /\ (0 <= (aq : Int) /\ (aq : Int) < (a7.toNat : Nat)) /\ ∃ wv_3, Stores P 3 ((⟨r, 0, none⟩ : Addr).add (aq.toNat * 1)) (.int .i64 ar) ah wv_3 /\
 (1000000000 : Int) ≠ 0 /\ ∃ au : Int, au = IntKind.wrap .i64 (Int.tdiv ap 1000000000) /\ ∃ av : Int, av = IntKind.wrap .i64 (ai + 1) /\ ae au av wv_3 /\ af au av wv_3 < af carry ai ah) /\
 ((decide ((ai : Int) < ((a4 : Nat) : Int))) = false ->
 ∃ aw : Int, aw = IntKind.wrap .i64 (ab + ((a4 : Nat) : Int)) /\ ∃ (ax : Int -> Int -> World -> Prop) (ay : Int -> Int -> World -> Nat), ax carry aw ah /\
 ∀ (az : Fr) (b0 : World) (carry_1 k : Int), ax carry_1 k b0 ->
 ((decide ((0 : Int) < carry_1)) = true ->
 (0 <= (k : Int) /\ (k : Int) < (a7.toNat : Nat)) /\ ∃ b1, Loads P 3 ((⟨r, 0, none⟩ : Addr).add (k.toNat * 1)) (.int .i64 b1) b0 /\ ∃ b2 : Int, b2 = IntKind.wrap .i64 (carry_1 + b1) /\ (1000000000 : Int) ≠ 0 /\ ∃ b3 : Int, b3 = Int.tmod b2 1000000000 /\ (0 <= (k : Int) /\ (k : Int) < (a7.toNat : Nat)) /\ ∃ wv_5, Stores P 3 ((⟨r, 0, none⟩ : Addr).add (k.toNat * 1)) (.int .i64 b3) b0 wv_5 /\
 (1000000000 : Int) ≠ 0 /\ ∃ b4 : Int, b4 = IntKind.wrap .i64 (Int.tdiv b2 1000000000) /\ ∃ b5 : Int, b5 = IntKind.wrap .i64 (k + 1) /\ ax b4 b5 wv_5 /\ ay b4 b5 wv_5 < ay carry_1 k b0) /\
 ((decide ((0 : Int) < carry_1)) = false ->
 ∃ b6 : Int, b6 = IntKind.wrap .i64 (ab + 1) /\ a8 b6 b0 /\ mu b6 b0 < mu ab aa))) /\
 ((decide ((ab : Int) < ((a1 : Nat) : Int))) = false ->
 Calls P 93 ⟨[(.slice (some ⟨r, 0, none⟩) a7.toNat a7.toNat)]⟩ aa fun e b7 =>
 ∃ b8 b9 ba, e = .returned (.slice b8 b9 ba) /\
 R (.slice b8 b9 ba) b7)
theorem impl_natMul_ret {a : Option Addr} {a0 a1 : Nat} {a2 : Option Addr} {a3 a4 : Nat} (h : impl_natMul a a0 a1 a2 a3 a4 w R) : Ret P 72 [.slice a a0 a1, .slice a2 a3 a4] w R := Ret.of_fsem Tryz.func72 rfl (Eq.mp (show _ = fsem P Tryz.f72 (fun k => cond (Nat.beq k 4) [(21, .one (.int .i64))] (cond (Nat.beq k 8) [(8, .one (.int .i64)), (28, .one (.int .i64))] (cond (Nat.beq k 15) [(8, .one (.int .i64)), (11, .one (.int .i64))] ([])))) _ R w from by kernel_rfl) h)
def impl_intCopy (x0 : Bool) (a0 : Option Addr) (a1 a2 : Nat) (w : World) (R : Value -> World -> Prop) : Prop :=
 ∀ r wv, New w (.cells ⟨[.bool x0, .slice a0 a1 a2]⟩ 33 (0, 0)) r wv ->
 ∀ a3 a4, New wv (.cells ⟨[.bool false, .slice none 0 0]⟩ 33 (0, 0)) a3 a4 ->
 ∃ t4, (∀ wv_2, Ext a4.drew wv_2 -> Loads P 4 ((⟨r, 0, none⟩ : Addr).add 0) (.bool t4) wv_2) /\ ∃ a5 a6 a7, (∀ wv_3, Ext a4.drew wv_3 -> Loads P 31 ((⟨r, 0, none⟩ : Addr).add 1) (.slice a5 a6 a7) wv_3) /\ Calls P 96 ⟨[.slice a5 a6 a7]⟩ a4.drew fun e a8 =>
 ∃ a9 aa ab, e = .returned (.slice a9 aa ab) /\
 Ext a4.drew a8 /\ ∃ wv_5, Stores P 33 ⟨a3, 0, none⟩ (.agg #[.bool t4, .slice a9 aa ab]) a8 wv_5 /\
 ∃ r0 ac ae af, Loads P 33 ⟨a3, 0, none⟩ (.agg #[.bool r0, .slice ac ae af]) wv_5 /\ R (.agg #[.bool r0, .slice ac ae af]) wv_5
theorem impl_intCopy_ret {x0 : Bool} {a : Option Addr} {a0 a1 : Nat} (h : impl_intCopy x0 a a0 a1 w R) : Ret P 73 [.agg #[.bool x0, .slice a a0 a1]] w R := Ret.of_fsem Tryz.func73 rfl (Eq.mp (show _ = fsem P Tryz.f73 (fun k => []) _ R w from by kernel_rfl) h)
end Go.Proofs.YtgbknjdjbahdkaaGreatDoor
namespace Go.Proofs.YtgbknjdjbahdkaaGreatDoor
variable {w : World} {R : Value -> World -> Prop}
open Go Go.Proofs.YtgbknjdjbahdkaaGreatDoor.Sx
set_option maxRecDepth 100000
def strings_IndexByte (s : ByteArray) (c : Int) (w : World) (R : Value -> World -> Prop) : Prop :=
 Calls P 119 ⟨[.string s, .int .u8 c]⟩ w fun e wv =>
 ∃ t7, e = .returned (.int .i64 t7) /\
 R (.int .i64 t7) wv
def strconv_Itoa (i : Int) (w : World) (R : Value -> World -> Prop) : Prop :=
 Calls P 122 ⟨[.int .i64 i]⟩ w fun e wv =>
 ∃ t4, e = .returned (.string t4) /\
 R (.string t4) wv
abbrev impl_TextDec_j3_z0 (q : Nat) (x : World) (R : Value -> World -> Prop) : Prop :=
 ∃ y, Stores P 46 ⟨q, 0, none⟩ (.agg #[.bool false, .slice none 0 0, .int .i64 0]) x y /\ ∃ r0_1 aq ar au r2_1, Loads P 46 ⟨q, 0, none⟩ (.agg #[.bool r0_1, .slice aq ar au, .int .i64 r2_1]) y /\ R (.tuple #[.agg #[.bool r0_1, .slice aq ar au, .int .i64 r2_1], .bool false]) y
def impl_TextDec_j3 (s : ByteArray) (r : Nat) (neg : Bool) (a0 : Option Addr) (a1 a2 : Nat) (scale : Int) (a3 : World) (R : Value -> World -> Prop) : Prop :=
 Calls P 56 ⟨[.slice a0 a1 a2, (.string (S []))]⟩ a3 fun a4 a5 =>
 ∃ a6, a4 = .returned (.string a6) /\
 ∃ (a7 : ByteArray -> World -> Prop) (mu : ByteArray -> World -> Nat), a7 a6 a5 /\
 ∀ (a8 : Fr) (a9 : World) (whole : ByteArray), a7 whole a9 ->
 ((decide ((1 : Int) < ((whole.size : Nat) : Int))) = true ->
 0 <= (0 : Int) /\ ∃ aa : UInt8, whole[0]? = some aa /\ ((decide ((((aa.toNat : Nat) : Int) : Int) = 48)) = true ->
 (0 <= (1 : Int) /\ (1 : Int) <= (whole.size : Nat)) /\ a7 (whole.extract 1 whole.size) a9 /\ mu (whole.extract 1 whole.size) a9 < mu whole a9) /\
 ((decide ((((aa.toNat : Nat) : Int) : Int) = 48)) = false ->
 Calls P 123 ⟨[.string whole]⟩ a9 fun ab ac =>
 ∃ ae af ag ah, ab = .returned (.tuple #[.slice ae af ag, .bool ah]) /\
 Calls P 101 ⟨[.bool neg, .slice ae af ag]⟩ ac fun ai aj =>
 ∃ ak al am an, ai = .returned (.agg #[.bool ak, .slice al am an]) /\
 ∀ ao ap, New aj (.cells ⟨[.bool false, .slice none 0 0, .int .i64 0]⟩ 46 (0, 0)) ao ap ->
 ∃ wv_8, Stores P 46 ⟨ao, 0, none⟩ (.agg #[.bool ak, .slice al am an, .int .i64 scale]) ap wv_8 /\
 ((!ah) = true ->
 (true = true ->
 impl_TextDec_j3_z0 r wv_8 R) /\
 (true = false ->
 ∃ av aw ax ay az, Loads P 46 ⟨ao, 0, none⟩ (.agg #[.bool av, .slice aw ax ay, .int .i64 az]) wv_8 /\ ∃ wv_10, Stores P 46 ⟨r, 0, none⟩ (.agg #[.bool av, .slice aw ax ay, .int .i64 az]) wv_8 wv_10 /\
 ∃ r0_2 b0 b1 b2 r2_2, Loads P 46 ⟨r, 0, none⟩ (.agg #[.bool r0_2, .slice b0 b1 b2, .int .i64 r2_2]) wv_10 /\ R (.tuple #[.agg #[.bool r0_2, .slice b0 b1 b2, .int .i64 r2_2], .bool true]) wv_10)) /\
 ((!ah) = false ->
 ∃ b3 b4 b5 b6 b7, Loads P 46 ⟨ao, 0, none⟩ (.agg #[.bool b3, .slice b4 b5 b6, .int .i64 b7]) wv_8 /\ Calls P 98 ⟨[.agg #[.bool b3, .slice b4 b5 b6, .int .i64 b7]]⟩ wv_8 fun b8 b9 =>
 ∃ ba, b8 = .returned (.string ba) /\
 ((decide (ba ≠ s)) = true ->
 impl_TextDec_j3_z0 r b9 R) /\
 ((decide (ba ≠ s)) = false ->
 ∃ be bf bg bh bi, Loads P 46 ⟨ao, 0, none⟩ (.agg #[.bool be, .slice bf bg bh, .int .i64 bi]) b9 /\ ∃ wv_13, Stores P 46 ⟨r, 0, none⟩ (.agg #[.bool be, .slice bf bg bh, .int .i64 bi]) b9 wv_13 /\
 ∃ r0_4 bj bk bl r2_4, Loads P 46 ⟨r, 0, none⟩ (.agg #[.bool r0_4, .slice bj bk bl, .int .i64 r2_4]) wv_13 /\ R (.tuple #[.agg #[.bool r0_4, .slice bj bk bl, .int .i64 r2_4], .bool true]) wv_13)))) /\
 ((decide ((1 : Int) < ((whole.size : Nat) : Int))) = false ->
 (false = true ->
 (0 <= (1 : Int) /\ (1 : Int) <= (whole.size : Nat)) /\ a7 (whole.extract 1 whole.size) a9 /\ mu (whole.extract 1 whole.size) a9 < mu whole a9) /\
 (false = false ->
 Calls P 123 ⟨[.string whole]⟩ a9 fun bm bn =>
 ∃ bo bp bq br, bm = .returned (.tuple #[.slice bo bp bq, .bool br]) /\
 Calls P 101 ⟨[.bool neg, .slice bo bp bq]⟩ bn fun bs bt =>
 ∃ bu bv bw bx, bs = .returned (.agg #[.bool bu, .slice bv bw bx]) /\
 ∀ bz c0, New bt (.cells ⟨[.bool false, .slice none 0 0, .int .i64 0]⟩ 46 (0, 0)) bz c0 ->
 ∃ wv_17, Stores P 46 ⟨bz, 0, none⟩ (.agg #[.bool bu, .slice bv bw bx, .int .i64 scale]) c0 wv_17 /\
 ((!br) = true ->
 (true = true ->
 impl_TextDec_j3_z0 r wv_17 R) /\
 (true = false ->
 ∃ c4 c5 c6 c7 c8, Loads P 46 ⟨bz, 0, none⟩ (.agg #[.bool c4, .slice c5 c6 c7, .int .i64 c8]) wv_17 /\ ∃ wv_19, Stores P 46 ⟨r, 0, none⟩ (.agg #[.bool c4, .slice c5 c6 c7, .int .i64 c8]) wv_17 wv_19 /\
 ∃ r0_6 c9 ca cb r2_6, Loads P 46 ⟨r, 0, none⟩ (.agg #[.bool r0_6, .slice c9 ca cb, .int .i64 r2_6]) wv_19 /\ R (.tuple #[.agg #[.bool r0_6, .slice c9 ca cb, .int .i64 r2_6], .bool true]) wv_19)) /\
 ((!br) = false ->
 ∃ cc cd ce cf cg, Loads P 46 ⟨bz, 0, none⟩ (.agg #[.bool cc, .slice cd ce cf, .int .i64 cg]) wv_17 /\ Calls P 98 ⟨[.agg #[.bool cc, .slice cd ce cf, .int .i64 cg]]⟩ wv_17 fun ch ci =>
 ∃ cj, ch = .returned (.string cj) /\
 ((decide (cj ≠ s)) = true ->
 impl_TextDec_j3_z0 r ci R) /\
 ((decide (cj ≠ s)) = false ->
 ∃ cn co cp cq cr, Loads P 46 ⟨bz, 0, none⟩ (.agg #[.bool cn, .slice co cp cq, .int .i64 cr]) ci /\ ∃ wv_22, Stores P 46 ⟨r, 0, none⟩ (.agg #[.bool cn, .slice co cp cq, .int .i64 cr]) ci wv_22 /\
 ∃ r0_8 cs ct cu r2_8, Loads P 46 ⟨r, 0, none⟩ (.agg #[.bool r0_8, .slice cs ct cu, .int .i64 r2_8]) wv_22 /\ R (.tuple #[.agg #[.bool r0_8, .slice cs ct cu, .int .i64 r2_8], .bool true]) wv_22))))
def impl_TextDec_j2 (s : ByteArray) (r : Nat) (neg : Bool) (a0 : Option Addr) (a1 a2 : Nat) (a3 : World) (R : Value -> World -> Prop) : Prop :=
 ((decide ((((a1 : Nat) : Int) : Int) = 2)) = true ->
 (0 <= (1 : Int) /\ (1 : Int) < (a1 : Nat)) /\ ptrS a0 fun ad => ∃ a4, Loads P 9 (ad.add (1 * 1)) (.string a4) a3 /\ impl_TextDec_j3 s r neg a0 a1 a2 ((a4.size : Nat) : Int) a3 R) /\
 ((decide ((((a1 : Nat) : Int) : Int) = 2)) = false ->
 impl_TextDec_j3 s r neg a0 a1 a2 0 a3 R)
def impl_TextDec_j1 (s : ByteArray) (r : Nat) (neg : Bool) (digits : ByteArray) (a0 : World) (R : Value -> World -> Prop) : Prop :=
 Calls P 34 ⟨[.string digits, (.string (S [46]))]⟩ a0 fun e a1 =>
 ∃ a2 a3 a4, e = .returned (.slice a2 a3 a4) /\
 ((decide ((2 : Int) < ((a3 : Nat) : Int))) = true ->
 (true = true ->
 ∃ wv_2, Stores P 46 ⟨r, 0, none⟩ (.agg #[.bool false, .slice none 0 0, .int .i64 0]) a1 wv_2 /\
 ∃ r0 a5 a6 a7 r2, Loads P 46 ⟨r, 0, none⟩ (.agg #[.bool r0, .slice a5 a6 a7, .int .i64 r2]) wv_2 /\ R (.tuple #[.agg #[.bool r0, .slice a5 a6 a7, .int .i64 r2], .bool false]) wv_2) /\
 (true = false ->
 impl_TextDec_j2 s r neg a2 a3 a4 a1 R)) /\
 ((decide ((2 : Int) < ((a3 : Nat) : Int))) = false ->
 ((decide ((100 : Int) < ((digits.size : Nat) : Int))) = true ->
 ∃ wv_23, Stores P 46 ⟨r, 0, none⟩ (.agg #[.bool false, .slice none 0 0, .int .i64 0]) a1 wv_23 /\
 ∃ r0_9 a8 a9 aa r2_9, Loads P 46 ⟨r, 0, none⟩ (.agg #[.bool r0_9, .slice a8 a9 aa, .int .i64 r2_9]) wv_23 /\ R (.tuple #[.agg #[.bool r0_9, .slice a8 a9 aa, .int .i64 r2_9], .bool false]) wv_23) /\
 ((decide ((100 : Int) < ((digits.size : Nat) : Int))) = false ->
 impl_TextDec_j2 s r neg a2 a3 a4 a1 R))
def impl_TextDec_j0 (s : ByteArray) (r : Nat) (neg : Bool) (W : World) (R : Value -> World -> Prop) : Prop :=
 (neg = true ->
 (0 <= (1 : Int) /\ (1 : Int) <= (s.size : Nat)) /\ impl_TextDec_j1 s r neg (s.extract 1 s.size) W R) /\
 (neg = false ->
 impl_TextDec_j1 s r neg s W R)
def impl_TextDec (s : ByteArray) (w : World) (R : Value -> World -> Prop) : Prop :=
 ∀ r wv, New w (.cells ⟨[.bool false, .slice none 0 0, .int .i64 0]⟩ 46 (0, 0)) r wv ->
 ((decide (s ≠ (S []))) = true ->
 0 <= (0 : Int) /\ ∃ b : UInt8, s[0]? = some b /\ impl_TextDec_j0 s r (decide ((((b.toNat : Nat) : Int) : Int) = 45)) wv R) /\
 ((decide (s ≠ (S []))) = false ->
 impl_TextDec_j0 s r false wv R)
theorem impl_TextDec_ret {s : ByteArray} (h : impl_TextDec s w R) : Ret P 85 [.string s] w R := Ret.of_fsem Tryz.func85 rfl (Eq.mp (show _ = fsem P Tryz.f85 (fun k => cond (Nat.beq k 13) [(8, .one .str)] ([])) _ R w from by kernel_rfl) h)
def impl_lowest_j0 (r a0 : Nat) (scale_2 : Int) (W : World) (R : Value -> World -> Prop) : Prop :=
 ∃ a1 a2 a3 a4, Loads P 33 ⟨r, 0, none⟩ (.agg #[.bool a1, .slice a2 a3 a4]) W /\ ∃ wv_4, Stores P 46 ⟨a0, 0, none⟩ (.agg #[.bool a1, .slice a2 a3 a4, .int .i64 scale_2]) W wv_4 /\
 ∃ r0 a5 a6 a7 r2, Loads P 46 ⟨a0, 0, none⟩ (.agg #[.bool r0, .slice a5 a6 a7, .int .i64 r2]) wv_4 /\ R (.agg #[.bool r0, .slice a5 a6 a7, .int .i64 r2]) wv_4
def impl_lowest (num0 : Bool) (a0 : Option Addr) (a1 a2 : Nat) (scale : Int) (w : World) (R : Value -> World -> Prop) : Prop :=
 ∀ r wv, New w (.cells ⟨[.bool num0, .slice a0 a1 a2]⟩ 33 (0, 0)) r wv ->
 ∀ a3 a4, New wv (.cells ⟨[.bool false, .slice none 0 0, .int .i64 0]⟩ 46 (0, 0)) a3 a4 ->
 ∃ (a5 : Int -> World -> Prop) (mu : Int -> World -> Nat), a5 scale a4 /\
 ∀ (a6 : Fr) (a7 : World) (scale_1 : Int), a5 scale_1 a7 ->
 ((decide ((0 : Int) < scale_1)) = true ->
 ∃ a8 a9 aa, Loads P 31 ((⟨r, 0, none⟩ : Addr).add 1) (.slice a8 a9 aa) a7 /\ Calls P 124 ⟨[.slice a8 a9 aa, .int .i64 10]⟩ a7 fun e ab =>
 ∃ ac ae af ag, e = .returned (.tuple #[.slice ac ae af, .int .i64 ag]) /\
 ((decide ((0 : Int) < ag)) = true ->
 impl_lowest_j0 r a3 scale_1 ab R) /\
 ((decide ((0 : Int) < ag)) = false ->
 ∃ ah, Loads P 4 ((⟨r, 0, none⟩ : Addr).add 0) (.bool ah) ab /\ Calls P 101 ⟨[.bool ah, .slice ac ae af]⟩ ab fun ai aj =>
 ∃ ak al am an, ai = .returned (.agg #[.bool ak, .slice al am an]) /\
 ∃ wv_6, Stores P 33 ⟨r, 0, none⟩ (.agg #[.bool ak, .slice al am an]) aj wv_6 /\
 ∃ ao : Int, ao = IntKind.wrap .i64 (scale_1 - 1) /\ a5 ao wv_6 /\ mu ao wv_6 < mu scale_1 a7)) /\
 ((decide ((0 : Int) < scale_1)) = false ->
 impl_lowest_j0 r a3 scale_1 a7 R)
theorem impl_lowest_ret {a : Bool} {a0 : Option Addr} {a1 a2 : Nat} {a3 : Int} (h : impl_lowest a a0 a1 a2 a3 w R) : Ret P 86 [.agg #[.bool a, .slice a0 a1 a2], .int .i64 a3] w R := Ret.of_fsem Tryz.func86 rfl (Eq.mp (show _ = fsem P Tryz.f86 (fun k => cond (Nat.beq k 2) [(1, .one (.int .i64))] ([])) _ R w from by kernel_rfl) h)
def impl_TaxRateOk (r0 : Bool) (a0 : Option Addr) (a1 a2 : Nat) (r2 : Int) (w : World) (R : Value -> World -> Prop) : Prop :=
 ∀ r wv, New w (.cells ⟨[.bool r0, .slice a0 a1 a2, .int .i64 r2]⟩ 46 (0, 0)) r wv ->
 ∃ a3 a4 a5 a6 a7, (∀ wv_1, Ext wv.drew wv_1 -> Loads P 46 ⟨r, 0, none⟩ (.agg #[.bool a3, .slice a4 a5 a6, .int .i64 a7]) wv_1) /\ Calls P 59 ⟨[.agg #[.bool a3, .slice a4 a5 a6, .int .i64 a7]]⟩ wv.drew fun e a8 =>
 ∃ t4, e = .returned (.bool t4) /\
 (t4 = true ->
 ∃ a9 aa ab, (∀ wv_3, Ext a8 wv_3 -> Loads P 31 (((⟨r, 0, none⟩ : Addr).add 0).add 1) (.slice a9 aa ab) wv_3) /\ ((decide ((((aa : Nat) : Int) : Int) <= 1)) = true ->
 ∃ ac, (∀ wv_4, Ext a8 wv_4 -> Loads P 4 (((⟨r, 0, none⟩ : Addr).add 0).add 0) (.bool ac) wv_4) /\ ((!ac) = true ->
 ∃ ae af ag ah ai, (∀ wv_5, Ext a8 wv_5 -> Loads P 46 ⟨r, 0, none⟩ (.agg #[.bool ae, .slice af ag ah, .int .i64 ai]) wv_5) /\ Calls P 13 ⟨[.int .i64 1]⟩ a8 fun aj ak =>
 ∃ al am an ao, aj = .returned (.agg #[.bool al, .slice am an ao]) /\
 Ext a8 ak /\ Calls P 125 ⟨[.agg #[.bool ae, .slice af ag ah, .int .i64 ai], .agg #[.bool al, .slice am an ao, .int .i64 0]]⟩ ak fun ap aq =>
 ∃ ar, ap = .returned (.int .i64 ar) /\
 R (.bool (decide ((ar : Int) <= 0))) aq) /\
 ((!ac) = false ->
 R (.bool false) a8)) /\
 ((decide ((((aa : Nat) : Int) : Int) <= 1)) = false ->
 (false = true ->
 ∃ au av aw ax ay, (∀ wv_8, Ext a8 wv_8 -> Loads P 46 ⟨r, 0, none⟩ (.agg #[.bool au, .slice av aw ax, .int .i64 ay]) wv_8) /\ Calls P 13 ⟨[.int .i64 1]⟩ a8 fun az b0 =>
 ∃ b1 b2 b3 b4, az = .returned (.agg #[.bool b1, .slice b2 b3 b4]) /\
 Ext a8 b0 /\ Calls P 125 ⟨[.agg #[.bool au, .slice av aw ax, .int .i64 ay], .agg #[.bool b1, .slice b2 b3 b4, .int .i64 0]]⟩ b0 fun b5 b6 =>
 ∃ b7, b5 = .returned (.int .i64 b7) /\
 R (.bool (decide ((b7 : Int) <= 0))) b6) /\
 (false = false ->
 R (.bool false) a8))) /\
 (t4 = false ->
 (false = true ->
 ∃ b8, (∀ wv_11, Ext a8 wv_11 -> Loads P 4 (((⟨r, 0, none⟩ : Addr).add 0).add 0) (.bool b8) wv_11) /\ ((!b8) = true ->
 ∃ b9 ba bb bc bd, (∀ wv_12, Ext a8 wv_12 -> Loads P 46 ⟨r, 0, none⟩ (.agg #[.bool b9, .slice ba bb bc, .int .i64 bd]) wv_12) /\ Calls P 13 ⟨[.int .i64 1]⟩ a8 fun be bf =>
 ∃ bg bh bi bj, be = .returned (.agg #[.bool bg, .slice bh bi bj]) /\
 Ext a8 bf /\ Calls P 125 ⟨[.agg #[.bool b9, .slice ba bb bc, .int .i64 bd], .agg #[.bool bg, .slice bh bi bj, .int .i64 0]]⟩ bf fun bk bl =>
 ∃ bm, bk = .returned (.int .i64 bm) /\
 R (.bool (decide ((bm : Int) <= 0))) bl) /\
 ((!b8) = false ->
 R (.bool false) a8)) /\
 (false = false ->
 (false = true ->
 ∃ bn bo bp bq br, (∀ wv_15, Ext a8 wv_15 -> Loads P 46 ⟨r, 0, none⟩ (.agg #[.bool bn, .slice bo bp bq, .int .i64 br]) wv_15) /\ Calls P 13 ⟨[.int .i64 1]⟩ a8 fun bs bt =>
 ∃ bu bv bw bx, bs = .returned (.agg #[.bool bu, .slice bv bw bx]) /\
 Ext a8 bt /\ Calls P 125 ⟨[.agg #[.bool bn, .slice bo bp bq, .int .i64 br], .agg #[.bool bu, .slice bv bw bx, .int .i64 0]]⟩ bt fun bz c0 =>
 ∃ c1, bz = .returned (.int .i64 c1) /\
 R (.bool (decide ((c1 : Int) <= 0))) c0) /\
 (false = false ->
 R (.bool false) a8)))
theorem impl_TaxRateOk_ret {r0 : Bool} {a : Option Addr} {a0 a1 : Nat} {r2 : Int} (h : impl_TaxRateOk r0 a a0 a1 r2 w R) : Ret P 87 [.agg #[.bool r0, .slice a a0 a1, .int .i64 r2]] w R := Ret.of_fsem Tryz.func87 rfl (Eq.mp (show _ = fsem P Tryz.f87 (fun k => []) _ R w from by kernel_rfl) h)
def spec_l13Rate (c : Option Addr) (w : World) (R : Value -> World -> Prop) : Prop :=
 ∀ r wv, New w (.cells ⟨[.bool false, .slice none 0 0, .int .i64 0]⟩ 46 (0, 0)) r wv ->
 ∀ a0 a1, New wv (.cells ⟨[.int .i64 0, .int .i64 1, .int .i64 25, .int .i64 77, .int .i64 81, .int .i64 190, .int .i64 200, .int .i64 1000]⟩ 3 (0, 0)) a0 a1 ->
 Calls P 127 ⟨[(.pointer c), (.slice (some ⟨a0, 0, none⟩) 8 8)]⟩ a1 fun e a2 =>
 ∃ t5, e = .returned (.int .i64 t5) /\
 Calls P 116 ⟨[.int .i64 t5]⟩ a2 fun a3 a4 =>
 ∃ a5 a6 a7 a8, a3 = .returned (.agg #[.bool a5, .slice a6 a7 a8]) /\
 ∀ a9 aa, New a4 (.cells ⟨[.int .i64 3, .int .i64 3, .int .i64 4]⟩ 3 (0, 0)) a9 aa ->
 Calls P 127 ⟨[(.pointer c), (.slice (some ⟨a9, 0, none⟩) 3 3)]⟩ aa fun ab ac =>
 ∃ t9, ab = .returned (.int .i64 t9) /\
 ∃ wv_6, Stores P 46 ⟨r, 0, none⟩ (.agg #[.bool a5, .slice a6 a7 a8, .int .i64 t9]) ac wv_6 /\
 ∃ r0 ae af ag r2, Loads P 46 ⟨r, 0, none⟩ (.agg #[.bool r0, .slice ae af ag, .int .i64 r2]) wv_6 /\ R (.agg #[.bool r0, .slice ae af ag, .int .i64 r2]) wv_6
theorem spec_l13Rate_ret {c : Option Addr} (h : spec_l13Rate c w R) : Ret P 89 [.pointer c] w R := Ret.of_fsem Tryz.func89 rfl (Eq.mp (show _ = fsem P Tryz.f89 (fun k => []) _ R w from by kernel_rfl) h)
def spec_l01Byte_j0 (x : Int) (W : World) (R : Value -> World -> Prop) : Prop :=
 R (.int .i64 x) W
def spec_l01Byte (c : Option Addr) (w : World) (R : Value -> World -> Prop) : Prop :=
 ptrS c fun ad => ∃ t8, Loads P 3 (ad.add 2) (.int .i64 t8) w /\ ∃ t9 : Int, t9 = IntKind.wrap .i64 (t8 * 6364136223846793005) /\ ∃ a0 : Int, a0 = IntKind.wrap .i64 (t9 + 1442695040888963407) /\ ptrS c fun a1 => ∃ wv, Stores P 3 (a1.add 2) (.int .i64 a0) w wv /\
 ptrS c fun a2 => ∃ a3, (∀ wv_1, Ext wv.drew wv_1 -> Loads P 3 (a2.add 2) (.int .i64 a3) wv_1) /\ 0 <= (33 : Int) /\ ∃ a4 : Int, a4 = Int.fdiv a3 (2 ^ (min (33 : Int).toNat (IntKind.bits .i64))) /\ ptrS c fun a5 => ∃ a6, (∀ wv_2, Ext wv.drew wv_2 -> Loads P 3 (a5.add 2) (.int .i64 a6) wv_2) /\ 0 <= (45 : Int) /\ ∃ a7 : Int, a7 = Int.fdiv a6 (2 ^ (min (45 : Int).toNat (IntKind.bits .i64))) /\ ∃ a8 : Int, a8 = IntKind.wrap .i64 (BitVec.ofInt (IntKind.bits .i64) a4 ^^^ BitVec.ofInt (IntKind.bits .i64) a7).toNat /\ ∃ a9 : Int, a9 = IntKind.wrap .i64 (BitVec.ofInt (IntKind.bits .i64) a8 &&& BitVec.ofInt (IntKind.bits .i64) 255).toNat /\ ptrS c fun aa => ∃ ab, (∀ wv_3, Ext wv.drew.drew wv_3 -> Loads P 3 (aa.add 1) (.int .i64 ab) wv_3) /\ ptrS c fun ac => ∃ ae af ag, (∀ wv_4, Ext wv.drew.drew wv_4 -> Loads P 28 (ac.add 0) (.slice ae af ag) wv_4) /\ ((decide ((ab : Int) < ((af : Nat) : Int))) = true ->
 ptrS c fun ah => ∃ ai aj ak, (∀ wv_5, Ext wv.drew.drew.drew wv_5 -> Loads P 28 (ah.add 0) (.slice ai aj ak) wv_5) /\ ptrS c fun al => ∃ am, (∀ wv_6, Ext wv.drew.drew.drew wv_6 -> Loads P 3 (al.add 1) (.int .i64 am) wv_6) /\ (0 <= (am : Int) /\ (am : Int) < (aj : Nat)) /\ ptrS ai fun an => ∃ ao, (∀ wv_7, Ext wv.drew.drew.drew wv_7 -> Loads P 5 (an.add (am.toNat * 1)) (.int .u8 ao) wv_7) /\ ∃ ap : Int, ap = IntKind.wrap .i64 ao /\ ∃ aq : Int, aq = IntKind.wrap .i64 (a9 + ap) /\ ∃ ar : Int, ar = IntKind.wrap .i64 (BitVec.ofInt (IntKind.bits .i64) aq &&& BitVec.ofInt (IntKind.bits .i64) 255).toNat /\ ptrS c fun au => ∃ av, Loads P 3 (au.add 1) (.int .i64 av) wv.drew.drew.drew /\ ∃ aw : Int, aw = IntKind.wrap .i64 (av + 1) /\ ptrS c fun ax => ∃ wv_8, Stores P 3 (ax.add 1) (.int .i64 aw) wv.drew.drew.drew wv_8 /\
 spec_l01Byte_j0 ar wv_8 R) /\
 ((decide ((ab : Int) < ((af : Nat) : Int))) = false ->
 spec_l01Byte_j0 a9 wv.drew.drew R)
theorem spec_l01Byte_ret {c : Option Addr} (h : spec_l01Byte c w R) : Ret P 90 [.pointer c] w R := Ret.of_fsem Tryz.func90 rfl (Eq.mp (show _ = fsem P Tryz.f90 (fun k => []) _ R w from by kernel_rfl) h)
def impl_NatOk_j0 (a0 : Option Addr) (a1 : Nat) (W : World) (R : Value -> World -> Prop) : Prop :=
 ∃ (a2 : Int -> World -> Prop) (mu : Int -> World -> Nat), a2 0 W /\
 ∀ (a3 : Fr) (wv : World) (a4 : Int), a2 a4 wv ->
 ((decide ((a4 : Int) < ((a1 : Nat) : Int))) = true ->
 (0 <= (a4 : Int) /\ (a4 : Int) < (a1 : Nat)) /\ ptrS a0 fun ad => ∃ a5, Loads P 3 (ad.add (a4.toNat * 1)) (.int .i64 a5) wv /\ ((decide ((a5 : Int) < 0)) = true ->
 (true = true ->
 R (.bool false) wv) /\
 (true = false ->
 ∃ a6 : Int, a6 = IntKind.wrap .i64 (a4 + 1) /\ a2 a6 wv /\ mu a6 wv < mu a4 wv)) /\
 ((decide ((a5 : Int) < 0)) = false ->
 ((decide ((1000000000 : Int) <= a5)) = true ->
 R (.bool false) wv) /\
 ((decide ((1000000000 : Int) <= a5)) = false ->
 ∃ a7 : Int, a7 = IntKind.wrap .i64 (a4 + 1) /\ a2 a7 wv /\ mu a7 wv < mu a4 wv))) /\
 ((decide ((a4 : Int) < ((a1 : Nat) : Int))) = false ->
 R (.bool true) wv)
def impl_NatOk (a0 : Option Addr) (a1 a2 : Nat) (w : World) (R : Value -> World -> Prop) : Prop :=
 ((decide ((50 : Int) < ((a1 : Nat) : Int))) = true ->
 (true = true ->
 R (.bool false) w) /\
 (true = false ->
 impl_NatOk_j0 a0 a1 w R)) /\
 ((decide ((50 : Int) < ((a1 : Nat) : Int))) = false ->
 ((decide ((0 : Int) < ((a1 : Nat) : Int))) = true ->
 ∃ a3 : Int, a3 = IntKind.wrap .i64 (((a1 : Nat) : Int) - 1) /\ (0 <= (a3 : Int) /\ (a3 : Int) < (a1 : Nat)) /\ ptrS a0 fun a4 => ∃ a5, Loads P 3 (a4.add (a3.toNat * 1)) (.int .i64 a5) w /\ ((decide ((a5 : Int) = 0)) = true ->
 R (.bool false) w) /\
 ((decide ((a5 : Int) = 0)) = false ->
 impl_NatOk_j0 a0 a1 w R)) /\
 ((decide ((0 : Int) < ((a1 : Nat) : Int))) = false ->
 (false = true ->
 R (.bool false) w) /\
 (false = false ->
 impl_NatOk_j0 a0 a1 w R)))
theorem impl_NatOk_ret {a : Option Addr} {a0 a1 : Nat} (h : impl_NatOk a a0 a1 w R) : Ret P 91 [.slice a a0 a1] w R := Ret.of_fsem Tryz.func91 rfl (Eq.mp (show _ = fsem P Tryz.f91 (fun k => cond (Nat.beq k 5) [(24, .one (.int .i64))] ([])) _ R w from by kernel_rfl) h)
def impl_trim (a0 : Option Addr) (a1 a2 : Nat) (w : World) (R : Value -> World -> Prop) : Prop :=
 ∃ (a3 : Option Addr -> Nat -> Nat -> World -> Prop) (mu : Option Addr -> Nat -> Nat -> World -> Nat), a3 a0 a1 a2 w /\
 ∀ (a4 : Fr) (wv : World) (a5 : Option Addr) (a6 a7 : Nat), a3 a5 a6 a7 wv ->
 ((decide ((0 : Int) < ((a6 : Nat) : Int))) = true ->
 ∃ a8 : Int, a8 = IntKind.wrap .i64 (((a6 : Nat) : Int) - 1) /\ (0 <= (a8 : Int) /\ (a8 : Int) < (a6 : Nat)) /\ ptrS a5 fun ad => ∃ a9, Loads P 3 (ad.add (a8.toNat * 1)) (.int .i64 a9) wv /\ ((decide ((a9 : Int) = 0)) = true ->
 ∃ aa : Int, aa = IntKind.wrap .i64 (((a6 : Nat) : Int) - 1) /\ (0 <= (aa : Int) /\ (aa : Int) <= (a7 : Nat)) /\ a3 (sub a5 0 a7 1) (aa.toNat - 0) (a7 - 0) wv /\ mu (sub a5 0 a7 1) (aa.toNat - 0) (a7 - 0) wv < mu a5 a6 a7 wv) /\
 ((decide ((a9 : Int) = 0)) = false ->
 R (.slice a5 a6 a7) wv)) /\
 ((decide ((0 : Int) < ((a6 : Nat) : Int))) = false ->
 (false = true ->
 ∃ ab : Int, ab = IntKind.wrap .i64 (((a6 : Nat) : Int) - 1) /\ (0 <= (ab : Int) /\ (ab : Int) <= (a7 : Nat)) /\ a3 (sub a5 0 a7 1) (ab.toNat - 0) (a7 - 0) wv /\ mu (sub a5 0 a7 1) (ab.toNat - 0) (a7 - 0) wv < mu a5 a6 a7 wv) /\
 (false = false ->
 R (.slice a5 a6 a7) wv))
theorem impl_trim_ret {a : Option Addr} {a0 a1 : Nat} (h : impl_trim a a0 a1 w R) : Ret P 93 [.slice a a0 a1] w R := Ret.of_fsem Tryz.func93 rfl (Eq.mp (show _ = fsem P Tryz.f93 (fun k => cond (Nat.beq k 2) [(0, .one .slice)] ([])) _ R w from by kernel_rfl) h)
def impl_intMul (x0 : Bool) (a0 : Option Addr) (a1 a2 : Nat) (y0 : Bool) (a3 : Option Addr) (a4 a5 : Nat) (w : World) (R : Value -> World -> Prop) : Prop :=
 ∀ r wv, New w (.cells ⟨[.bool x0, .slice a0 a1 a2]⟩ 33 (0, 0)) r wv ->
 ∀ a6 a7, New wv (.cells ⟨[.bool y0, .slice a3 a4 a5]⟩ 33 (0, 0)) a6 a7 ->
 ∀ a8 a9, New a7 (.cells ⟨[.bool false, .slice none 0 0]⟩ 33 (0, 0)) a8 a9 ->
 ∃ t6, (∀ wv_3, Ext a9.drew wv_3 -> Loads P 4 ((⟨r, 0, none⟩ : Addr).add 0) (.bool t6) wv_3) /\ ∃ t8, (∀ wv_4, Ext a9.drew wv_4 -> Loads P 4 ((⟨a6, 0, none⟩ : Addr).add 0) (.bool t8) wv_4) /\ ∃ aa ab ac, (∀ wv_5, Ext a9.drew wv_5 -> Loads P 31 ((⟨r, 0, none⟩ : Addr).add 1) (.slice aa ab ac) wv_5) /\ ∃ ae af ag, (∀ wv_6, Ext a9.drew wv_6 -> Loads P 31 ((⟨a6, 0, none⟩ : Addr).add 1) (.slice ae af ag) wv_6) /\ Calls P 72 ⟨[.slice aa ab ac, .slice ae af ag]⟩ a9.drew fun e ah =>
 ∃ ai aj ak, e = .returned (.slice ai aj ak) /\
 Ext a9.drew ah /\ Calls P 101 ⟨[(.bool (!(t6 == t8))), .slice ai aj ak]⟩ ah fun al am =>
 ∃ an ao ap aq, al = .returned (.agg #[.bool an, .slice ao ap aq]) /\
 ∃ wv_9, Stores P 33 ⟨a8, 0, none⟩ (.agg #[.bool an, .slice ao ap aq]) am wv_9 /\
 ∃ r0 ar au av, Loads P 33 ⟨a8, 0, none⟩ (.agg #[.bool r0, .slice ar au av]) wv_9 /\ R (.agg #[.bool r0, .slice ar au av]) wv_9
theorem impl_intMul_ret {x0 : Bool} {a : Option Addr} {a0 a1 : Nat} {y0 : Bool} {a2 : Option Addr} {a3 a4 : Nat} (h : impl_intMul x0 a a0 a1 y0 a2 a3 a4 w R) : Ret P 94 [.agg #[.bool x0, .slice a a0 a1], .agg #[.bool y0, .slice a2 a3 a4]] w R := Ret.of_fsem Tryz.func94 rfl (Eq.mp (show _ = fsem P Tryz.f94 (fun k => []) _ R w from by kernel_rfl) h)
def impl_intNeg (x0 : Bool) (a0 : Option Addr) (a1 a2 : Nat) (w : World) (R : Value -> World -> Prop) : Prop :=
 ∀ r wv, New w (.cells ⟨[.bool x0, .slice a0 a1 a2]⟩ 33 (0, 0)) r wv ->
 ∀ a3 a4, New wv (.cells ⟨[.bool false, .slice none 0 0]⟩ 33 (0, 0)) a3 a4 ->
 ∃ t4, (∀ wv_2, Ext a4.drew wv_2 -> Loads P 4 ((⟨r, 0, none⟩ : Addr).add 0) (.bool t4) wv_2) /\ ∃ a5 a6 a7, (∀ wv_3, Ext a4.drew wv_3 -> Loads P 31 ((⟨r, 0, none⟩ : Addr).add 1) (.slice a5 a6 a7) wv_3) /\ Calls P 96 ⟨[.slice a5 a6 a7]⟩ a4.drew fun e a8 =>
 ∃ a9 aa ab, e = .returned (.slice a9 aa ab) /\
 Ext a4.drew a8 /\ Calls P 101 ⟨[(.bool (!t4)), .slice a9 aa ab]⟩ a8 fun ac ae =>
 ∃ af ag ah ai, ac = .returned (.agg #[.bool af, .slice ag ah ai]) /\
 ∃ wv_6, Stores P 33 ⟨a3, 0, none⟩ (.agg #[.bool af, .slice ag ah ai]) ae wv_6 /\
 ∃ r0 aj ak al, Loads P 33 ⟨a3, 0, none⟩ (.agg #[.bool r0, .slice aj ak al]) wv_6 /\ R (.agg #[.bool r0, .slice aj ak al]) wv_6
theorem impl_intNeg_ret {x0 : Bool} {a : Option Addr} {a0 a1 : Nat} (h : impl_intNeg x0 a a0 a1 w R) : Ret P 95 [.agg #[.bool x0, .slice a a0 a1]] w R := Ret.of_fsem Tryz.func95 rfl (Eq.mp (show _ = fsem P Tryz.f95 (fun k => []) _ R w from by kernel_rfl) h)
def impl_natCopy (a0 : Option Addr) (a1 a2 : Nat) (w : World) (R : Value -> World -> Prop) : Prop :=
 ∀ r wv, New w (.cells ⟨[]⟩ 3 (0, 0)) r wv ->
 ∃ a3 a4 a5 a6, Appends P [31, 31] [(.slice (some ⟨r, 0, none⟩) 0 0), .slice a0 a1 a2] (.slice a3 a4 a5) wv a6 /\
 R (.slice a3 a4 a5) a6
theorem impl_natCopy_ret {a : Option Addr} {a0 a1 : Nat} (h : impl_natCopy a a0 a1 w R) : Ret P 96 [.slice a a0 a1] w R := Ret.of_fsem Tryz.func96 rfl (Eq.mp (show _ = fsem P Tryz.f96 (fun k => []) _ R w from by kernel_rfl) h)
def impl_DecMul_j0 (r a0 a1 : Nat) (W : World) (R : Value -> World -> Prop) : Prop :=
 ∃ a2 a3 a4 a5, (∀ wv_5, Ext W.drew wv_5 -> Loads P 33 ((⟨r, 0, none⟩ : Addr).add 0) (.agg #[.bool a2, .slice a3 a4 a5]) wv_5) /\ ∃ a6 a7 a8 a9, (∀ wv_6, Ext W.drew wv_6 -> Loads P 33 ((⟨a0, 0, none⟩ : Addr).add 0) (.agg #[.bool a6, .slice a7 a8 a9]) wv_6) /\ Calls P 94 ⟨[.agg #[.bool a2, .slice a3 a4 a5], .agg #[.bool a6, .slice a7 a8 a9]]⟩ W.drew fun aa ab =>
 ∃ ac ae af ag, aa = .returned (.agg #[.bool ac, .slice ae af ag]) /\
 Ext W.drew ab /\ ∃ ah, (∀ wv_8, Ext W.drew wv_8 -> Loads P 3 ((⟨r, 0, none⟩ : Addr).add 2) (.int .i64 ah) wv_8) /\ ∃ ai, (∀ wv_9, Ext W.drew wv_9 -> Loads P 3 ((⟨a0, 0, none⟩ : Addr).add 2) (.int .i64 ai) wv_9) /\ ∃ aj : Int, aj = IntKind.wrap .i64 (ah + ai) /\ Calls P 128 ⟨[.agg #[.bool ac, .slice ae af ag], .int .i64 aj]⟩ ab fun ak al =>
 ∃ am an ao ap aq ar, ak = .returned (.tuple #[.agg #[.bool am, .slice an ao ap, .int .i64 aq], .bool ar]) /\
 ∃ wv_11, Stores P 46 ⟨a1, 0, none⟩ (.agg #[.bool am, .slice an ao ap, .int .i64 aq]) al wv_11 /\
 ∃ r0_1 au av aw r2_1, Loads P 46 ⟨a1, 0, none⟩ (.agg #[.bool r0_1, .slice au av aw, .int .i64 r2_1]) wv_11 /\ R (.tuple #[.agg #[.bool r0_1, .slice au av aw, .int .i64 r2_1], .bool ar]) wv_11
def impl_DecMul (d0 : Bool) (a0 : Option Addr) (a1 a2 : Nat) (d2 : Int) (e0 : Bool) (a3 : Option Addr) (a4 a5 : Nat) (e2 : Int) (w : World) (R : Value -> World -> Prop) : Prop :=
 ∀ r wv, New w (.cells ⟨[.bool d0, .slice a0 a1 a2, .int .i64 d2]⟩ 46 (0, 0)) r wv ->
 ∀ a6 a7, New wv (.cells ⟨[.bool e0, .slice a3 a4 a5, .int .i64 e2]⟩ 46 (0, 0)) a6 a7 ->
 ∀ a8 a9, New a7 (.cells ⟨[.bool false, .slice none 0 0, .int .i64 0]⟩ 46 (0, 0)) a8 a9 ->
 ∃ aa ab ac ae af, Loads P 46 ⟨r, 0, none⟩ (.agg #[.bool aa, .slice ab ac ae, .int .i64 af]) a9 /\ Calls P 59 ⟨[.agg #[.bool aa, .slice ab ac ae, .int .i64 af]]⟩ a9 fun e ag =>
 ∃ t7, e = .returned (.bool t7) /\
 ((!t7) = true ->
 (true = true ->
 ∃ wv_4, Stores P 46 ⟨a8, 0, none⟩ (.agg #[.bool false, .slice none 0 0, .int .i64 0]) ag wv_4 /\
 ∃ r0 ah ai aj r2, Loads P 46 ⟨a8, 0, none⟩ (.agg #[.bool r0, .slice ah ai aj, .int .i64 r2]) wv_4 /\ R (.tuple #[.agg #[.bool r0, .slice ah ai aj, .int .i64 r2], .bool false]) wv_4) /\
 (true = false ->
 impl_DecMul_j0 r a6 a8 ag R)) /\
 ((!t7) = false ->
 ∃ ak al am an ao, Loads P 46 ⟨a6, 0, none⟩ (.agg #[.bool ak, .slice al am an, .int .i64 ao]) ag /\ Calls P 59 ⟨[.agg #[.bool ak, .slice al am an, .int .i64 ao]]⟩ ag fun ap aq =>
 ∃ ar, ap = .returned (.bool ar) /\
 ((!ar) = true ->
 ∃ wv_13, Stores P 46 ⟨a8, 0, none⟩ (.agg #[.bool false, .slice none 0 0, .int .i64 0]) aq wv_13 /\
 ∃ r0_2 au av aw r2_2, Loads P 46 ⟨a8, 0, none⟩ (.agg #[.bool r0_2, .slice au av aw, .int .i64 r2_2]) wv_13 /\ R (.tuple #[.agg #[.bool r0_2, .slice au av aw, .int .i64 r2_2], .bool false]) wv_13) /\
 ((!ar) = false ->
 impl_DecMul_j0 r a6 a8 aq R))
theorem impl_DecMul_ret {d0 : Bool} {a : Option Addr} {a0 a1 : Nat} {d2 : Int} {e0 : Bool} {a2 : Option Addr} {a3 a4 : Nat} {e2 : Int} (h : impl_DecMul d0 a a0 a1 d2 e0 a2 a3 a4 e2 w R) : Ret P 97 [.agg #[.bool d0, .slice a a0 a1, .int .i64 d2], .agg #[.bool e0, .slice a2 a3 a4, .int .i64 e2]] w R := Ret.of_fsem Tryz.func97 rfl (Eq.mp (show _ = fsem P Tryz.f97 (fun k => []) _ R w from by kernel_rfl) h)
def impl_DecText_j1 (text_1 : ByteArray) (a0 : World) (R : Value -> World -> Prop) : Prop :=
 R (.string text_1) a0
def impl_DecText_j0 (r : Nat) (text : ByteArray) (W : World) (R : Value -> World -> Prop) : Prop :=
 ∃ a0, Loads P 4 (((⟨r, 0, none⟩ : Addr).add 0).add 0) (.bool a0) W /\ (a0 = true ->
 (S [45]).size + text.size <= 9223372036854775807 /\ ∃ a1 : ByteArray, a1 = (S [45]) ++ text /\ impl_DecText_j1 a1 W R) /\
 (a0 = false ->
 impl_DecText_j1 text W R)
def impl_DecText (d0 : Bool) (a0 : Option Addr) (a1 a2 : Nat) (d2 : Int) (w : World) (R : Value -> World -> Prop) : Prop :=
 ∀ r wv, New w (.cells ⟨[.bool d0, .slice a0 a1 a2, .int .i64 d2]⟩ 46 (0, 0)) r wv ->
 ∃ a3 a4 a5 a6 a7, Loads P 46 ⟨r, 0, none⟩ (.agg #[.bool a3, .slice a4 a5 a6, .int .i64 a7]) wv /\ Calls P 59 ⟨[.agg #[.bool a3, .slice a4 a5 a6, .int .i64 a7]]⟩ wv fun e a8 =>
 ∃ t6, e = .returned (.bool t6) /\
 ((!t6) = true ->
 R (.string (S [])) a8) /\
 ((!t6) = false ->
 ∃ a9 aa ab, (∀ wv_2, Ext a8.drew wv_2 -> Loads P 31 (((⟨r, 0, none⟩ : Addr).add 0).add 1) (.slice a9 aa ab) wv_2) /\ Calls P 130 ⟨[.slice a9 aa ab]⟩ a8.drew fun ac ae =>
 ∃ af, ac = .returned (.string af) /\
 Ext a8.drew ae /\ ∃ ag, (∀ wv_4, Ext a8.drew wv_4 -> Loads P 3 ((⟨r, 0, none⟩ : Addr).add 2) (.int .i64 ag) wv_4) /\ ∃ ah : Int, ah = IntKind.wrap .i64 (ag + 1) /\ Calls P 129 ⟨[.string af, .int .i64 ah]⟩ ae fun ai aj =>
 ∃ ak, ai = .returned (.string ak) /\
 ∃ al, Loads P 3 ((⟨r, 0, none⟩ : Addr).add 2) (.int .i64 al) aj /\ ((decide ((0 : Int) < al)) = true ->
 ∃ am, Loads P 3 ((⟨r, 0, none⟩ : Addr).add 2) (.int .i64 am) aj /\ ∃ an : Int, an = IntKind.wrap .i64 (((ak.size : Nat) : Int) - am) /\ (0 <= (an : Int) /\ (an : Int) <= (ak.size : Nat)) /\ (ak.extract 0 an.toNat).size + (S [46]).size <= 9223372036854775807 /\ ∃ ao : ByteArray, ao = (ak.extract 0 an.toNat) ++ (S [46]) /\ (0 <= (an : Int) /\ (an : Int) <= (ak.size : Nat)) /\ ao.size + (ak.extract an.toNat ak.size).size <= 9223372036854775807 /\ ∃ ap : ByteArray, ap = ao ++ (ak.extract an.toNat ak.size) /\ impl_DecText_j0 r ap aj.drew R) /\
 ((decide ((0 : Int) < al)) = false ->
 impl_DecText_j0 r ak aj R))
theorem impl_DecText_ret {d0 : Bool} {a : Option Addr} {a0 a1 : Nat} {d2 : Int} (h : impl_DecText d0 a a0 a1 d2 w R) : Ret P 98 [.agg #[.bool d0, .slice a a0 a1, .int .i64 d2]] w R := Ret.of_fsem Tryz.func98 rfl (Eq.mp (show _ = fsem P Tryz.f98 (fun k => []) _ R w from by kernel_rfl) h)
def impl_DecLow_j0 (r a0 : Nat) (a1 : World) (a2 : Int -> World -> Prop) (mu : Int -> World -> Nat) (scale : Int) (W : World) (R : Value -> World -> Prop) : Prop :=
 ∃ a3 a4 a5 a6 a7, Loads P 46 ⟨r, 0, none⟩ (.agg #[.bool a3, .slice a4 a5 a6, .int .i64 a7]) W /\ Calls P 131 ⟨[.agg #[.bool a3, .slice a4 a5 a6, .int .i64 a7], .int .i64 scale]⟩ W fun e a8 =>
 ∃ a9 aa ab ac ae af, e = .returned (.tuple #[.agg #[.bool a9, .slice aa ab ac, .int .i64 ae], .bool af]) /\
 ∀ ag ah, New a8 (.cells ⟨[.bool false, .slice none 0 0, .int .i64 0]⟩ 46 (0, 0)) ag ah ->
 ∃ wv_5, Stores P 46 ⟨ag, 0, none⟩ (.agg #[.bool a9, .slice aa ab ac, .int .i64 ae]) ah wv_5 /\
 (af = true ->
 ∃ ai aj ak al am, Loads P 46 ⟨ag, 0, none⟩ (.agg #[.bool ai, .slice aj ak al, .int .i64 am]) wv_5 /\ ∃ wv_6, Stores P 46 ⟨a0, 0, none⟩ (.agg #[.bool ai, .slice aj ak al, .int .i64 am]) wv_5 wv_6 /\
 ∃ r0 an ao ap r2, Loads P 46 ⟨a0, 0, none⟩ (.agg #[.bool r0, .slice an ao ap, .int .i64 r2]) wv_6 /\ R (.agg #[.bool r0, .slice an ao ap, .int .i64 r2]) wv_6) /\
 (af = false ->
 ∃ aq : Int, aq = IntKind.wrap .i64 (scale + 1) /\ a2 aq wv_5 /\ mu aq wv_5 < mu scale a1)
def impl_DecLow (d0 : Bool) (a0 : Option Addr) (a1 a2 : Nat) (d2 : Int) (w : World) (R : Value -> World -> Prop) : Prop :=
 ∀ r wv, New w (.cells ⟨[.bool d0, .slice a0 a1 a2, .int .i64 d2]⟩ 46 (0, 0)) r wv ->
 ∀ a3 a4, New wv (.cells ⟨[.bool false, .slice none 0 0, .int .i64 0]⟩ 46 (0, 0)) a3 a4 ->
 ∃ (a5 : Int -> World -> Prop) (mu : Int -> World -> Nat), a5 0 a4 /\
 ∀ (a6 : Fr) (a7 : World) (scale : Int), a5 scale a7 ->
 ∃ t8, Loads P 3 ((⟨r, 0, none⟩ : Addr).add 2) (.int .i64 t8) a7 /\ ((decide ((scale : Int) <= t8)) = true ->
 ((decide ((scale : Int) <= 30)) = true ->
 impl_DecLow_j0 r a3 a7 a5 mu scale a7 R) /\
 ((decide ((scale : Int) <= 30)) = false ->
 ∃ wv_7, Stores P 46 ⟨a3, 0, none⟩ (.agg #[.bool false, .slice none 0 0, .int .i64 0]) a7 wv_7 /\
 ∃ r0_1 a8 a9 aa r2_1, Loads P 46 ⟨a3, 0, none⟩ (.agg #[.bool r0_1, .slice a8 a9 aa, .int .i64 r2_1]) wv_7 /\ R (.agg #[.bool r0_1, .slice a8 a9 aa, .int .i64 r2_1]) wv_7)) /\
 ((decide ((scale : Int) <= t8)) = false ->
 (false = true ->
 impl_DecLow_j0 r a3 a7 a5 mu scale a7 R) /\
 (false = false ->
 ∃ wv_8, Stores P 46 ⟨a3, 0, none⟩ (.agg #[.bool false, .slice none 0 0, .int .i64 0]) a7 wv_8 /\
 ∃ r0_2 ab ac ae r2_2, Loads P 46 ⟨a3, 0, none⟩ (.agg #[.bool r0_2, .slice ab ac ae, .int .i64 r2_2]) wv_8 /\ R (.agg #[.bool r0_2, .slice ab ac ae, .int .i64 r2_2]) wv_8))
theorem impl_DecLow_ret {d0 : Bool} {a : Option Addr} {a0 a1 : Nat} {d2 : Int} (h : impl_DecLow d0 a a0 a1 d2 w R) : Ret P 99 [.agg #[.bool d0, .slice a a0 a1, .int .i64 d2]] w R := Ret.of_fsem Tryz.func99 rfl (Eq.mp (show _ = fsem P Tryz.f99 (fun k => cond (Nat.beq k 3) [(3, .one (.int .i64))] ([])) _ R w from by kernel_rfl) h)
def strings_Join_j0 (a0 : Option Addr) (a1 a2 : Nat) (sep : ByteArray) (n : Int) (W : World) (R : Value -> World -> Prop) : Prop :=
 ∃ (a3 : Int -> Int -> World -> Prop) (mu : Int -> Int -> World -> Nat), a3 n 0 W /\
 ∀ (a4 : Fr) (wv : World) (n_1 a5 : Int), a3 n_1 a5 wv ->
 ((decide ((a5 : Int) < ((a1 : Nat) : Int))) = true ->
 (0 <= (a5 : Int) /\ (a5 : Int) < (a1 : Nat)) /\ ptrS a0 fun a6 => ∃ a7, Loads P 9 (a6.add (a5.toNat * 1)) (.string a7) wv /\ ∃ a8 : Int, a8 = IntKind.wrap .i64 (9223372036854775807 - n_1) /\ ((decide ((a8 : Int) < ((a7.size : Nat) : Int))) = true ->
 False) /\
 ((decide ((a8 : Int) < ((a7.size : Nat) : Int))) = false ->
 ∃ a9 : Int, a9 = IntKind.wrap .i64 (n_1 + ((a7.size : Nat) : Int)) /\ ∃ aa : Int, aa = IntKind.wrap .i64 (a5 + 1) /\ a3 a9 aa wv /\ mu a9 aa wv < mu n_1 a5 wv)) /\
 ((decide ((a5 : Int) < ((a1 : Nat) : Int))) = false ->
 ∀ r ab, New wv (.cells ⟨[(.pointer none), .slice none 0 0]⟩ 142 (0, 0)) r ab ->
 Calls P 132 ⟨[(.pointer (some ⟨r, 0, none⟩)), .int .i64 n_1]⟩ ab fun e ac =>
 e = .returned (.tuple #[]) /\
 (0 <= (0 : Int) /\ (0 : Int) < (a1 : Nat)) /\ ptrS a0 fun ae => ∃ af, Loads P 9 (ae.add (0 * 1)) (.string af) ac /\ Calls P 133 ⟨[(.pointer (some ⟨r, 0, none⟩)), .string af]⟩ ac fun ag ah =>
 ∃ (ai : Int) (aj : Value), ag = .returned (.tuple #[.int .i64 ai, aj]) /\
 (0 <= (1 : Int) /\ (1 : Int) <= (a1 : Nat)) /\ ∃ (ak : Int -> World -> Prop) (al : Int -> World -> Nat), ak 0 ah /\
 ∀ (am : Fr) (an : World) (ao : Int), ak ao an ->
 ((decide ((ao : Int) < (((a1 - 1) : Nat) : Int))) = true ->
 (0 <= (ao : Int) /\ (ao : Int) < ((a1 - 1) : Nat)) /\ ptrS (sub a0 1 a2 1) fun ap => ∃ aq, Loads P 9 (ap.add (ao.toNat * 1)) (.string aq) an /\ Calls P 133 ⟨[(.pointer (some ⟨r, 0, none⟩)), .string sep]⟩ an fun ar au =>
 ∃ (av : Int) (aw : Value), ar = .returned (.tuple #[.int .i64 av, aw]) /\
 Calls P 133 ⟨[(.pointer (some ⟨r, 0, none⟩)), .string aq]⟩ au fun ax ay =>
 ∃ (az : Int) (b0 : Value), ax = .returned (.tuple #[.int .i64 az, b0]) /\
 ∃ b1 : Int, b1 = IntKind.wrap .i64 (ao + 1) /\ ak b1 ay /\ al b1 ay < al ao an) /\
 ((decide ((ao : Int) < (((a1 - 1) : Nat) : Int))) = false ->
 Calls P 134 ⟨[(.pointer (some ⟨r, 0, none⟩))]⟩ an fun b2 b3 =>
 ∃ b4, b2 = .returned (.string b4) /\
 R (.string b4) b3))
def strings_Join (a0 : Option Addr) (a1 a2 : Nat) (sep : ByteArray) (w : World) (R : Value -> World -> Prop) : Prop :=
 ((decide ((((a1 : Nat) : Int) : Int) = 0)) = true ->
 R (.string (S [])) w) /\
 ((decide ((((a1 : Nat) : Int) : Int) = 0)) = false ->
 ((decide ((((a1 : Nat) : Int) : Int) = 1)) = true ->
 (0 <= (0 : Int) /\ (0 : Int) < (a1 : Nat)) /\ ptrS a0 fun ad => ∃ a3, Loads P 9 (ad.add (0 * 1)) (.string a3) w /\ R (.string a3) w) /\
 ((decide ((((a1 : Nat) : Int) : Int) = 1)) = false ->
 ((decide ((0 : Int) < ((sep.size : Nat) : Int))) = true ->
 ∃ a4 : Int, a4 = IntKind.wrap .i64 (((a1 : Nat) : Int) - 1) /\ (a4 : Int) ≠ 0 /\ ∃ a5 : Int, a5 = IntKind.wrap .i64 (Int.tdiv 9223372036854775807 a4) /\ ((decide ((a5 : Int) <= ((sep.size : Nat) : Int))) = true ->
 False) /\
 ((decide ((a5 : Int) <= ((sep.size : Nat) : Int))) = false ->
 ∃ a6 : Int, a6 = IntKind.wrap .i64 (((a1 : Nat) : Int) - 1) /\ ∃ a7 : Int, a7 = IntKind.wrap .i64 (((sep.size : Nat) : Int) * a6) /\ ∃ a8 : Int, a8 = IntKind.wrap .i64 (0 + a7) /\ strings_Join_j0 a0 a1 a2 sep a8 w R)) /\
 ((decide ((0 : Int) < ((sep.size : Nat) : Int))) = false ->
 strings_Join_j0 a0 a1 a2 sep 0 w R)))
def impl_signed (neg : Bool) (a0 : Option Addr) (a1 a2 : Nat) (w : World) (R : Value -> World -> Prop) : Prop :=
 ∀ r wv, New w (.cells ⟨[.bool false, .slice none 0 0]⟩ 33 (0, 0)) r wv ->
 (neg = true ->
 ∃ wv_1, Stores P 33 ⟨r, 0, none⟩ (.agg #[(.bool (decide ((0 : Int) < ((a1 : Nat) : Int)))), .slice a0 a1 a2]) wv wv_1 /\
 ∃ r0 a3 a4 a5, Loads P 33 ⟨r, 0, none⟩ (.agg #[.bool r0, .slice a3 a4 a5]) wv_1 /\ R (.agg #[.bool r0, .slice a3 a4 a5]) wv_1) /\
 (neg = false ->
 ∃ wv_2, Stores P 33 ⟨r, 0, none⟩ (.agg #[.bool false, .slice a0 a1 a2]) wv wv_2 /\
 ∃ r0_1 a6 a7 a8, Loads P 33 ⟨r, 0, none⟩ (.agg #[.bool r0_1, .slice a6 a7 a8]) wv_2 /\ R (.agg #[.bool r0_1, .slice a6 a7 a8]) wv_2)
theorem impl_signed_ret {a : Bool} {a0 : Option Addr} {a1 a2 : Nat} (h : impl_signed a a0 a1 a2 w R) : Ret P 101 [.bool a, .slice a0 a1 a2] w R := Ret.of_fsem Tryz.func101 rfl (Eq.mp (show _ = fsem P Tryz.f101 (fun k => []) _ R w from by kernel_rfl) h)
def impl_isScale (scale : Int) (w : World) (R : Value -> World -> Prop) : Prop :=
 ((decide ((0 : Int) <= scale)) = true ->
 R (.bool (decide ((scale : Int) <= 30))) w) /\
 ((decide ((0 : Int) <= scale)) = false ->
 R (.bool false) w)
theorem impl_isScale_ret {a : Int} (h : impl_isScale a w R) : Ret P 102 [.int .i64 a] w R := Ret.of_fsem Tryz.func102 rfl (Eq.mp (show _ = fsem P Tryz.f102 (fun k => []) _ R w from by kernel_rfl) h)
def impl_natGcd (a0 : Option Addr) (a1 a2 : Nat) (a3 : Option Addr) (a4 a5 : Nat) (w : World) (R : Value -> World -> Prop) : Prop :=
 ∃ (a6 : Option Addr -> Nat -> Nat -> Option Addr -> Nat -> Nat -> World -> Prop) (mu : Option Addr -> Nat -> Nat -> Option Addr -> Nat -> Nat -> World -> Nat), a6 a0 a1 a2 a3 a4 a5 w /\
 ∀ (a7 : Fr) (wv : World) (a8 : Option Addr) (a9 aa : Nat) (ab : Option Addr) (ac ae : Nat), a6 a8 a9 aa ab ac ae wv ->
 ((decide ((0 : Int) < ((ac : Nat) : Int))) = true ->
 Calls P 104 ⟨[.slice a8 a9 aa, .slice ab ac ae]⟩ wv fun e af =>
 ∃ ag ah ai aj ak al, e = .returned (.tuple #[.slice ag ah ai, .slice aj ak al]) /\
 a6 ab ac ae aj ak al af /\ mu ab ac ae aj ak al af < mu a8 a9 aa ab ac ae wv) /\
 ((decide ((0 : Int) < ((ac : Nat) : Int))) = false ->
 Calls P 96 ⟨[.slice a8 a9 aa]⟩ wv fun am an =>
 ∃ ao ap aq, am = .returned (.slice ao ap aq) /\
 R (.slice ao ap aq) an)
theorem impl_natGcd_ret {a : Option Addr} {a0 a1 : Nat} {a2 : Option Addr} {a3 a4 : Nat} (h : impl_natGcd a a0 a1 a2 a3 a4 w R) : Ret P 103 [.slice a a0 a1, .slice a2 a3 a4] w R := Ret.of_fsem Tryz.func103 rfl (Eq.mp (show _ = fsem P Tryz.f103 (fun k => cond (Nat.beq k 2) [(0, .one .slice), (1, .one .slice)] ([])) _ R w from by kernel_rfl) h)
def impl_natDiv (a0 : Option Addr) (a1 a2 : Nat) (a3 : Option Addr) (a4 a5 : Nat) (w : World) (R : Value -> World -> Prop) : Prop :=
 Calls P 47 ⟨[.slice a0 a1 a2, .slice a3 a4 a5]⟩ w fun e wv =>
 ∃ a6, e = .returned (.int .i64 a6) /\
 ((decide ((a6 : Int) < 0)) = true ->
 ∀ r a7, New wv (.cells ⟨[]⟩ 3 (0, 0)) r a7 ->
 Calls P 96 ⟨[.slice a0 a1 a2]⟩ a7 fun a8 a9 =>
 ∃ aa ab ac, a8 = .returned (.slice aa ab ac) /\
 R (.tuple #[(.slice (some ⟨r, 0, none⟩) 0 0), .slice aa ab ac]) a9) /\
 ((decide ((a6 : Int) < 0)) = false ->
 ((decide ((((a4 : Nat) : Int) : Int) = 1)) = true ->
 (0 <= (0 : Int) /\ (0 : Int) < (a4 : Nat)) /\ ptrS a3 fun ad => ∃ ae, Loads P 3 (ad.add (0 * 1)) (.int .i64 ae) wv /\ Calls P 124 ⟨[.slice a0 a1 a2, .int .i64 ae]⟩ wv fun af ag =>
 ∃ ah ai aj ak, af = .returned (.tuple #[.slice ah ai aj, .int .i64 ak]) /\
 Calls P 48 ⟨[.int .i64 ak]⟩ ag fun al am =>
 ∃ an ao ap, al = .returned (.slice an ao ap) /\
 R (.tuple #[.slice ah ai aj, .slice an ao ap]) am) /\
 ((decide ((((a4 : Nat) : Int) : Int) = 1)) = false ->
 ∃ aq : Int, aq = IntKind.wrap .i64 (((a4 : Nat) : Int) - 1) /\ (0 <= (aq : Int) /\ (aq : Int) < (a4 : Nat)) /\ ptrS a3 fun ar => ∃ au, Loads P 3 (ar.add (aq.toNat * 1)) (.int .i64 au) wv /\ ∃ av : Int, av = IntKind.wrap .i64 (au + 1) /\ (av : Int) ≠ 0 /\ ∃ aw : Int, aw = IntKind.wrap .i64 (Int.tdiv 1000000000 av) /\ ∀ ax ay, New wv (.cells ⟨[.int .i64 aw]⟩ 3 (0, 0)) ax ay ->
 Calls P 72 ⟨[.slice a0 a1 a2, (.slice (some ⟨ax, 0, none⟩) 1 1)]⟩ ay fun az b0 =>
 ∃ b1 b2 b3, az = .returned (.slice b1 b2 b3) /\
 ∀ b4 b5, New b0 (.cells ⟨[.int .i64 aw]⟩ 3 (0, 0)) b4 b5 ->
 Calls P 72 ⟨[.slice a3 a4 a5, (.slice (some ⟨b4, 0, none⟩) 1 1)]⟩ b5 fun b6 b7 =>
 ∃ b8 b9 ba, b6 = .returned (.slice b8 b9 ba) /\
 ∃ (bb : Option Addr -> Nat -> Nat -> World -> Prop) (mu : Option Addr -> Nat -> Nat -> World -> Nat), bb b1 b2 b3 b7 /\
 ∀ (bc : Fr) (bd : World) (be : Option Addr) (bf bg : Nat), bb be bf bg bd ->
 ((decide ((((bf : Nat) : Int) : Int) <= ((a1 : Nat) : Int))) = true ->
 ∀ bh bi, New bd (.cells ⟨[.int .i64 0]⟩ 3 (0, 0)) bh bi ->
 ∃ bj bk bl bm, Appends P [31, 31] [.slice be bf bg, (.slice (some ⟨bh, 0, none⟩) 1 1)] (.slice bj bk bl) bi bm /\
 bb bj bk bl bm /\ mu bj bk bl bm < mu be bf bg bd) /\
 ((decide ((((bf : Nat) : Int) : Int) <= ((a1 : Nat) : Int))) = false ->
 ∃ bn : Int, bn = IntKind.wrap .i64 (((bf : Nat) : Int) - ((b9 : Nat) : Int)) /\ (0 <= (bn : Int) /\ (bn : Int) <= bn /\ ((8 : Nat) : Int) * bn <= 281474976710656) /\
 ∀ bo bp, New bd (.cells ⟨zeroRow (.int .i64 0) (bn.toNat * 1)⟩ 3 (0, 0)) bo bp ->
 ∃ bq : Int, bq = IntKind.wrap .i64 (((bn.toNat : Nat) : Int) - 1) /\ ∃ (br : Int -> World -> Prop) (bs : Int -> World -> Nat), br bq bp /\
 ∀ (bt : Fr) (bu : World) (j : Int), br j bu ->
 ((decide ((0 : Int) <= j)) = true ->
 ∃ bv : Int, bv = IntKind.wrap .i64 (j + ((b9 : Nat) : Int)) /\ ∃ bw : Int, bw = IntKind.wrap .i64 (bv + 1) /\ (0 <= (bw : Int) /\ (bw : Int) <= (bg : Nat)) /\ (0 <= (j : Int) /\ (j : Int) <= (bw.toNat : Nat)) /\ Calls P 135 ⟨[(.slice (sub be j.toNat bg 1) (bw.toNat - j.toNat) (bg - j.toNat)), .slice b8 b9 ba]⟩ bu fun bx bz =>
 ∃ c0, bx = .returned (.int .i64 c0) /\
 (0 <= (j : Int) /\ (j : Int) < (bn.toNat : Nat)) /\ ∃ wv_15, Stores P 3 ((⟨bo, 0, none⟩ : Addr).add (j.toNat * 1)) (.int .i64 c0) bz wv_15 /\
 ∃ c1 : Int, c1 = IntKind.wrap .i64 (j - 1) /\ br c1 wv_15 /\ bs c1 wv_15 < bs j bu) /\
 ((decide ((0 : Int) <= j)) = false ->
 Calls P 93 ⟨[.slice be bf bg]⟩ bu fun c2 c3 =>
 ∃ c4 c5 c6, c2 = .returned (.slice c4 c5 c6) /\
 Calls P 124 ⟨[.slice c4 c5 c6, .int .i64 aw]⟩ c3 fun c7 c8 =>
 ∃ c9 ca cb cc, c7 = .returned (.tuple #[.slice c9 ca cb, .int .i64 cc]) /\
 Calls P 93 ⟨[(.slice (some ⟨bo, 0, none⟩) bn.toNat bn.toNat)]⟩ c8 fun cd ce =>
 ∃ cf cg ch, cd = .returned (.slice cf cg ch) /\
 R (.tuple #[.slice cf cg ch, .slice c9 ca cb]) ce))))
theorem impl_natDiv_ret {a : Option Addr} {a0 a1 : Nat} {a2 : Option Addr} {a3 a4 : Nat} (h : impl_natDiv a a0 a1 a2 a3 a4 w R) : Ret P 104 [.slice a a0 a1, .slice a2 a3 a4] w R := Ret.of_fsem Tryz.func104 rfl (Eq.mp (show _ = fsem P Tryz.f104 (fun k => cond (Nat.beq k 10) [(9, .one .slice)] (cond (Nat.beq k 15) [(13, .one (.int .i64))] ([]))) _ R w from by kernel_rfl) h)
def impl_intsOk (x0 : Bool) (a0 : Option Addr) (a1 a2 : Nat) (y0 : Bool) (a3 : Option Addr) (a4 a5 : Nat) (w : World) (R : Value -> World -> Prop) : Prop :=
 ∀ r wv, New w (.cells ⟨[.bool x0, .slice a0 a1 a2]⟩ 33 (0, 0)) r wv ->
 ∀ a6 a7, New wv (.cells ⟨[.bool y0, .slice a3 a4 a5]⟩ 33 (0, 0)) a6 a7 ->
 ∃ a8 a9 aa ab, Loads P 33 ⟨r, 0, none⟩ (.agg #[.bool a8, .slice a9 aa ab]) a7 /\ Calls P 44 ⟨[.agg #[.bool a8, .slice a9 aa ab]]⟩ a7 fun e ac =>
 ∃ t6, e = .returned (.bool t6) /\
 (t6 = true ->
 ∃ ae af ag ah, Loads P 33 ⟨a6, 0, none⟩ (.agg #[.bool ae, .slice af ag ah]) ac /\ Calls P 44 ⟨[.agg #[.bool ae, .slice af ag ah]]⟩ ac fun ai aj =>
 ∃ t9, ai = .returned (.bool t9) /\
 R (.bool t9) aj) /\
 (t6 = false ->
 R (.bool false) ac)
theorem impl_intsOk_ret {x0 : Bool} {a : Option Addr} {a0 a1 : Nat} {y0 : Bool} {a2 : Option Addr} {a3 a4 : Nat} (h : impl_intsOk x0 a a0 a1 y0 a2 a3 a4 w R) : Ret P 105 [.agg #[.bool x0, .slice a a0 a1], .agg #[.bool y0, .slice a2 a3 a4]] w R := Ret.of_fsem Tryz.func105 rfl (Eq.mp (show _ = fsem P Tryz.f105 (fun k => []) _ R w from by kernel_rfl) h)
def impl_CurKnown (code : ByteArray) (w : World) (R : Value -> World -> Prop) : Prop :=
 Calls P 136 ⟨[.string code]⟩ w fun e wv =>
 ∃ a0 a1 a2 a3 t7, e = .returned (.tuple #[.agg #[.string a0, .string a1, .int .i64 a2, .int .i64 a3], .bool t7]) /\
 ∀ r a4, New wv (.cells ⟨[.string ByteArray.empty, .string ByteArray.empty, .int .i64 0, .int .i64 0]⟩ 146 (0, 0)) r a4 ->
 ∃ wv_2, Stores P 146 ⟨r, 0, none⟩ (.agg #[.string a0, .string a1, .int .i64 a2, .int .i64 a3]) a4 wv_2 /\
 R (.bool t7) wv_2
theorem impl_CurKnown_ret {a : ByteArray} (h : impl_CurKnown a w R) : Ret P 106 [.string a] w R := Ret.of_fsem Tryz.func106 rfl (Eq.mp (show _ = fsem P Tryz.f106 (fun k => []) _ R w from by kernel_rfl) h)
end Go.Proofs.YtgbknjdjbahdkaaGreatDoor
namespace Go.Proofs.YtgbknjdjbahdkaaGreatDoor
variable {w : World} {R : Value -> World -> Prop}
open Go Go.Proofs.YtgbknjdjbahdkaaGreatDoor.Sx
set_option maxRecDepth 100000
def impl_RatRest (r0 : Bool) (a0 : Option Addr) (a1 a2 : Nat) (a3 : Option Addr) (a4 a5 : Nat) (m : Int) (w : World) (R : Value -> World -> Prop) : Prop :=
 ∀ r wv, New w (.cells ⟨[.bool r0, .slice a0 a1 a2, .slice a3 a4 a5]⟩ 35 (0, 0)) r wv ->
 ∀ a6 a7, New wv (.cells ⟨[.bool false, .slice none 0 0]⟩ 33 (0, 0)) a6 a7 ->
 ∀ a8 a9, New a7 (.cells ⟨[.bool false, .slice none 0 0, .slice none 0 0]⟩ 35 (0, 0)) a8 a9 ->
 ∃ aa ab ac ae af ag ah, Loads P 35 ⟨r, 0, none⟩ (.agg #[.bool aa, .slice ab ac ae, .slice af ag ah]) a9 /\ Calls P 137 ⟨[.agg #[.bool aa, .slice ab ac ae, .slice af ag ah], .int .i64 m]⟩ a9 fun e ai =>
 ∃ aj ak al am an, e = .returned (.tuple #[.agg #[.bool aj, .slice ak al am], .bool an]) /\
 ∀ ao ap, New ai (.cells ⟨[.bool false, .slice none 0 0]⟩ 33 (0, 0)) ao ap ->
 ∃ wv_5, Stores P 33 ⟨ao, 0, none⟩ (.agg #[.bool aj, .slice ak al am]) ap wv_5 /\
 ((!an) = true ->
 ∃ wv_6, Stores P 33 ⟨a6, 0, none⟩ (.agg #[.bool false, .slice none 0 0]) wv_5 wv_6 /\
 ∃ wv_7, Stores P 35 ⟨a8, 0, none⟩ (.agg #[.bool false, .slice none 0 0, .slice none 0 0]) wv_6 wv_7 /\
 ∃ r0_1 aq ar au, Loads P 33 ⟨a6, 0, none⟩ (.agg #[.bool r0_1, .slice aq ar au]) wv_7 /\ ∃ r0_2 av aw ax ay az b0, Loads P 35 ⟨a8, 0, none⟩ (.agg #[.bool r0_2, .slice av aw ax, .slice ay az b0]) wv_7 /\ R (.tuple #[.agg #[.bool r0_1, .slice aq ar au], .agg #[.bool r0_2, .slice av aw ax, .slice ay az b0], .bool false]) wv_7) /\
 ((!an) = false ->
 ∃ b1 b2 b3 b4, Loads P 33 ⟨ao, 0, none⟩ (.agg #[.bool b1, .slice b2 b3 b4]) wv_5 /\ Calls P 20 ⟨[.agg #[.bool b1, .slice b2 b3 b4]]⟩ wv_5 fun b5 b6 =>
 ∃ b7 b8 b9 ba bb bc bd be, b5 = .returned (.tuple #[.agg #[.bool b7, .slice b8 b9 ba, .slice bb bc bd], .bool be]) /\
 ∀ bf bg, New b6 (.cells ⟨[.bool false, .slice none 0 0, .slice none 0 0]⟩ 35 (0, 0)) bf bg ->
 ∃ wv_10, Stores P 35 ⟨bf, 0, none⟩ (.agg #[.bool b7, .slice b8 b9 ba, .slice bb bc bd]) bg wv_10 /\
 ∃ bh bi bj bk bl bm bn, Loads P 35 ⟨r, 0, none⟩ (.agg #[.bool bh, .slice bi bj bk, .slice bl bm bn]) wv_10 /\ ∃ bo bp bq br bs bt bu, Loads P 35 ⟨bf, 0, none⟩ (.agg #[.bool bo, .slice bp bq br, .slice bs bt bu]) wv_10 /\ Calls P 16 ⟨[.agg #[.bool bh, .slice bi bj bk, .slice bl bm bn], .agg #[.bool bo, .slice bp bq br, .slice bs bt bu]]⟩ wv_10 fun bv bw =>
 ∃ bx bz c0 c1 c2 c3 c4 c5, bv = .returned (.tuple #[.agg #[.bool bx, .slice bz c0 c1, .slice c2 c3 c4], .bool c5]) /\
 ∀ c6 c7, New bw (.cells ⟨[.bool false, .slice none 0 0, .slice none 0 0]⟩ 35 (0, 0)) c6 c7 ->
 ∃ wv_13, Stores P 35 ⟨c6, 0, none⟩ (.agg #[.bool bx, .slice bz c0 c1, .slice c2 c3 c4]) c7 wv_13 /\
 ((!be) = true ->
 (true = true ->
 ∃ wv_14, Stores P 33 ⟨a6, 0, none⟩ (.agg #[.bool false, .slice none 0 0]) wv_13 wv_14 /\
 ∃ wv_15, Stores P 35 ⟨a8, 0, none⟩ (.agg #[.bool false, .slice none 0 0, .slice none 0 0]) wv_14 wv_15 /\
 ∃ r0_3 c8 c9 ca, Loads P 33 ⟨a6, 0, none⟩ (.agg #[.bool r0_3, .slice c8 c9 ca]) wv_15 /\ ∃ r0_4 cb cc cd ce cf cg, Loads P 35 ⟨a8, 0, none⟩ (.agg #[.bool r0_4, .slice cb cc cd, .slice ce cf cg]) wv_15 /\ R (.tuple #[.agg #[.bool r0_3, .slice c8 c9 ca], .agg #[.bool r0_4, .slice cb cc cd, .slice ce cf cg], .bool false]) wv_15) /\
 (true = false ->
 ∃ blks : List Nat, ∃ ch ci cj ck, (∀ wv_16, EX blks wv_13.drew wv_16 -> Loads P 33 ⟨ao, 0, none⟩ (.agg #[.bool ch, .slice ci cj ck]) wv_16) /\ ∃ cl cm cn co cp cq cr, (∀ wv_17, EX blks wv_13.drew wv_17 -> Loads P 35 ⟨c6, 0, none⟩ (.agg #[.bool cl, .slice cm cn co, .slice cp cq cr]) wv_17) /\ ∃ wv_18, Stores P 33 ⟨a6, 0, none⟩ (.agg #[.bool ch, .slice ci cj ck]) wv_13.drew wv_18 /\
 EX blks wv_13.drew wv_18 /\ ∃ wv_19, Stores P 35 ⟨a8, 0, none⟩ (.agg #[.bool cl, .slice cm cn co, .slice cp cq cr]) wv_18 wv_19 /\
 ∃ r0_5 cs ct cu, Loads P 33 ⟨a6, 0, none⟩ (.agg #[.bool r0_5, .slice cs ct cu]) wv_19 /\ ∃ r0_6 cv cw cx cy cz d0, Loads P 35 ⟨a8, 0, none⟩ (.agg #[.bool r0_6, .slice cv cw cx, .slice cy cz d0]) wv_19 /\ R (.tuple #[.agg #[.bool r0_5, .slice cs ct cu], .agg #[.bool r0_6, .slice cv cw cx, .slice cy cz d0], .bool true]) wv_19)) /\
 ((!be) = false ->
 ((!c5) = true ->
 ∃ wv_20, Stores P 33 ⟨a6, 0, none⟩ (.agg #[.bool false, .slice none 0 0]) wv_13 wv_20 /\
 ∃ wv_21, Stores P 35 ⟨a8, 0, none⟩ (.agg #[.bool false, .slice none 0 0, .slice none 0 0]) wv_20 wv_21 /\
 ∃ r0_7 d1 d2 d3, Loads P 33 ⟨a6, 0, none⟩ (.agg #[.bool r0_7, .slice d1 d2 d3]) wv_21 /\ ∃ r0_8 d4 d5 d6 d7 d8 d9, Loads P 35 ⟨a8, 0, none⟩ (.agg #[.bool r0_8, .slice d4 d5 d6, .slice d7 d8 d9]) wv_21 /\ R (.tuple #[.agg #[.bool r0_7, .slice d1 d2 d3], .agg #[.bool r0_8, .slice d4 d5 d6, .slice d7 d8 d9], .bool false]) wv_21) /\
 ((!c5) = false ->
 ∃ blks_1 : List Nat, ∃ da db dc dd, (∀ wv_22, EX blks_1 wv_13.drew wv_22 -> Loads P 33 ⟨ao, 0, none⟩ (.agg #[.bool da, .slice db dc dd]) wv_22) /\ ∃ de df dg dh di dj dk, (∀ wv_23, EX blks_1 wv_13.drew wv_23 -> Loads P 35 ⟨c6, 0, none⟩ (.agg #[.bool de, .slice df dg dh, .slice di dj dk]) wv_23) /\ ∃ wv_24, Stores P 33 ⟨a6, 0, none⟩ (.agg #[.bool da, .slice db dc dd]) wv_13.drew wv_24 /\
 EX blks_1 wv_13.drew wv_24 /\ ∃ wv_25, Stores P 35 ⟨a8, 0, none⟩ (.agg #[.bool de, .slice df dg dh, .slice di dj dk]) wv_24 wv_25 /\
 ∃ r0_9 dl dm dn, Loads P 33 ⟨a6, 0, none⟩ (.agg #[.bool r0_9, .slice dl dm dn]) wv_25 /\ ∃ r0_10 dp dq dr ds dt du, Loads P 35 ⟨a8, 0, none⟩ (.agg #[.bool r0_10, .slice dp dq dr, .slice ds dt du]) wv_25 /\ R (.tuple #[.agg #[.bool r0_9, .slice dl dm dn], .agg #[.bool r0_10, .slice dp dq dr, .slice ds dt du], .bool true]) wv_25)))
theorem impl_RatRest_ret {r0 : Bool} {a : Option Addr} {a0 a1 : Nat} {a2 : Option Addr} {a3 a4 : Nat} {m : Int} (h : impl_RatRest r0 a a0 a1 a2 a3 a4 m w R) : Ret P 107 [.agg #[.bool r0, .slice a a0 a1, .slice a2 a3 a4], .int .i64 m] w R := Ret.of_fsem Tryz.func107 rfl (Eq.mp (show _ = fsem P Tryz.f107 (fun k => []) _ R w from by kernel_rfl) h)
def impl_natAdd_j1 (a0 : World) (a1 : Option Addr -> Nat -> Nat -> Int -> Int -> World -> Prop) (mu : Option Addr -> Nat -> Nat -> Int -> Int -> World -> Nat) (a2 : Option Addr) (a3 a4 : Nat) (carry i carry_2 : Int) (a5 : World) (R : Value -> World -> Prop) : Prop :=
 (1000000000 : Int) ≠ 0 /\ ∃ a6 : Int, a6 = Int.tmod carry_2 1000000000 /\ ∀ a7 a8, New a5 (.cells ⟨[.int .i64 a6]⟩ 3 (0, 0)) a7 a8 ->
 ∃ a9 aa ab ac, Appends P [31, 31] [.slice a2 a3 a4, (.slice (some ⟨a7, 0, none⟩) 1 1)] (.slice a9 aa ab) a8 ac /\
 (1000000000 : Int) ≠ 0 /\ ∃ ae : Int, ae = IntKind.wrap .i64 (Int.tdiv carry_2 1000000000) /\ ∃ af : Int, af = IntKind.wrap .i64 (i + 1) /\ a1 a9 aa ab ae af ac /\ mu a9 aa ab ae af ac < mu a2 a3 a4 carry i a0
def impl_natAdd_j0 (a0 : Option Addr) (a1 : Nat) (a2 : World) (a3 : Option Addr -> Nat -> Nat -> Int -> Int -> World -> Prop) (mu : Option Addr -> Nat -> Nat -> Int -> Int -> World -> Nat) (a4 : Option Addr) (a5 a6 : Nat) (carry i carry_1 : Int) (W : World) (R : Value -> World -> Prop) : Prop :=
 ((decide ((i : Int) < ((a1 : Nat) : Int))) = true ->
 (0 <= (i : Int) /\ (i : Int) < (a1 : Nat)) /\ ptrS a0 fun a7 => ∃ a8, Loads P 3 (a7.add (i.toNat * 1)) (.int .i64 a8) W /\ ∃ a9 : Int, a9 = IntKind.wrap .i64 (carry_1 + a8) /\ impl_natAdd_j1 a2 a3 mu a4 a5 a6 carry i a9 W R) /\
 ((decide ((i : Int) < ((a1 : Nat) : Int))) = false ->
 impl_natAdd_j1 a2 a3 mu a4 a5 a6 carry i carry_1 W R)
def impl_natAdd (a0 : Option Addr) (a1 a2 : Nat) (a3 : Option Addr) (a4 a5 : Nat) (w : World) (R : Value -> World -> Prop) : Prop :=
 ∃ a6 : Int, a6 = (if ((a4 : Nat) : Int) > ((a1 : Nat) : Int) then ((a4 : Nat) : Int) else ((a1 : Nat) : Int)) /\ ∃ a7 : Int, a7 = IntKind.wrap .i64 (a6 + 1) /\ (0 <= (0 : Int) /\ (0 : Int) <= a7 /\ ((8 : Nat) : Int) * a7 <= 281474976710656) /\
 ∀ r wv, New w (.cells ⟨zeroRow (.int .i64 0) (a7.toNat * 1)⟩ 3 (0, 0)) r wv ->
 ∃ (a8 : Option Addr -> Nat -> Nat -> Int -> Int -> World -> Prop) (mu : Option Addr -> Nat -> Nat -> Int -> Int -> World -> Nat), a8 (some ⟨r, 0, none⟩) 0 a7.toNat 0 0 wv /\
 ∀ (a9 : Fr) (aa : World) (ab : Option Addr) (ac ae : Nat) (carry i : Int), a8 ab ac ae carry i aa ->
 ∃ af : Int, af = (if ((a4 : Nat) : Int) > ((a1 : Nat) : Int) then ((a4 : Nat) : Int) else ((a1 : Nat) : Int)) /\ ((decide ((i : Int) < af)) = true ->
 ((decide ((i : Int) < ((a1 : Nat) : Int))) = true ->
 (0 <= (i : Int) /\ (i : Int) < (a1 : Nat)) /\ ptrS a0 fun ad => ∃ ag, Loads P 3 (ad.add (i.toNat * 1)) (.int .i64 ag) aa /\ ∃ ah : Int, ah = IntKind.wrap .i64 (carry + ag) /\ impl_natAdd_j0 a3 a4 aa a8 mu ab ac ae carry i ah aa R) /\
 ((decide ((i : Int) < ((a1 : Nat) : Int))) = false ->
 impl_natAdd_j0 a3 a4 aa a8 mu ab ac ae carry i carry aa R)) /\
 ((decide ((i : Int) < af)) = false ->
 ∀ ai aj, New aa (.cells ⟨[.int .i64 carry]⟩ 3 (0, 0)) ai aj ->
 ∃ ak al am an, Appends P [31, 31] [.slice ab ac ae, (.slice (some ⟨ai, 0, none⟩) 1 1)] (.slice ak al am) aj an /\
 Calls P 93 ⟨[.slice ak al am]⟩ an fun e ao =>
 ∃ ap aq ar, e = .returned (.slice ap aq ar) /\
 R (.slice ap aq ar) ao)
theorem impl_natAdd_ret {a : Option Addr} {a0 a1 : Nat} {a2 : Option Addr} {a3 a4 : Nat} (h : impl_natAdd a a0 a1 a2 a3 a4 w R) : Ret P 108 [.slice a a0 a1, .slice a2 a3 a4] w R := Ret.of_fsem Tryz.func108 rfl (Eq.mp (show _ = fsem P Tryz.f108 (fun k => cond (Nat.beq k 5) [(5, .one .slice), (6, .one (.int .i64)), (7, .one (.int .i64))] ([])) _ R w from by kernel_rfl) h)
def impl_sameInts (a0 : Option Addr) (a1 a2 : Nat) (a3 : Option Addr) (a4 a5 : Nat) (w : World) (R : Value -> World -> Prop) : Prop :=
 ((decide ((((a1 : Nat) : Int) : Int) ≠ ((a4 : Nat) : Int))) = true ->
 R (.bool false) w) /\
 ((decide ((((a1 : Nat) : Int) : Int) ≠ ((a4 : Nat) : Int))) = false ->
 ∃ (a6 : Int -> World -> Prop) (mu : Int -> World -> Nat), a6 0 w /\
 ∀ (a7 : Fr) (wv : World) (a8 : Int), a6 a8 wv ->
 ((decide ((a8 : Int) < ((a1 : Nat) : Int))) = true ->
 (0 <= (a8 : Int) /\ (a8 : Int) < (a1 : Nat)) /\ ptrS a0 fun ad => ∃ a9, (∀ wv_1, Ext wv.drew wv_1 -> Loads P 3 (ad.add (a8.toNat * 1)) (.int .i64 a9) wv_1) /\ (0 <= (a8 : Int) /\ (a8 : Int) < (a4 : Nat)) /\ ptrS a3 fun aa => ∃ ab, (∀ wv_2, Ext wv.drew wv_2 -> Loads P 3 (aa.add (a8.toNat * 1)) (.int .i64 ab) wv_2) /\ ((decide ((a9 : Int) ≠ ab)) = true ->
 R (.bool false) wv.drew) /\
 ((decide ((a9 : Int) ≠ ab)) = false ->
 ∃ ac : Int, ac = IntKind.wrap .i64 (a8 + 1) /\ a6 ac wv.drew /\ mu ac wv.drew < mu a8 wv)) /\
 ((decide ((a8 : Int) < ((a1 : Nat) : Int))) = false ->
 R (.bool true) wv))
theorem impl_sameInts_ret {a : Option Addr} {a0 a1 : Nat} {a2 : Option Addr} {a3 a4 : Nat} (h : impl_sameInts a a0 a1 a2 a3 a4 w R) : Ret P 109 [.slice a a0 a1, .slice a2 a3 a4] w R := Ret.of_fsem Tryz.func109 rfl (Eq.mp (show _ = fsem P Tryz.f109 (fun k => cond (Nat.beq k 5) [(13, .one (.int .i64))] ([])) _ R w from by kernel_rfl) h)
def spec_IntOf (n : Int) (w : World) (R : Value -> World -> Prop) : Prop :=
 ∀ r wv, New w (.cells ⟨[.bool false, .slice none 0 0]⟩ 33 (0, 0)) r wv ->
 ((decide ((n : Int) = (-9223372036854775808))) = true ->
 ∀ a0 a1, New wv (.cells ⟨[.int .i64 854775808, .int .i64 223372036, .int .i64 9]⟩ 3 (0, 0)) a0 a1 ->
 Calls P 144 ⟨[.bool true, (.slice (some ⟨a0, 0, none⟩) 3 3)]⟩ a1 fun e a2 =>
 ∃ a3 a4 a5 a6, e = .returned (.agg #[.bool a3, .slice a4 a5 a6]) /\
 ∃ wv_3, Stores P 33 ⟨r, 0, none⟩ (.agg #[.bool a3, .slice a4 a5 a6]) a2 wv_3 /\
 ∃ r0 a7 a8 a9, Loads P 33 ⟨r, 0, none⟩ (.agg #[.bool r0, .slice a7 a8 a9]) wv_3 /\ R (.agg #[.bool r0, .slice a7 a8 a9]) wv_3) /\
 ((decide ((n : Int) = (-9223372036854775808))) = false ->
 ((decide ((n : Int) < 0)) = true ->
 ∃ aa : Int, aa = IntKind.wrap .i64 (0 - n) /\ Calls P 145 ⟨[.int .i64 aa]⟩ wv fun ab ac =>
 ∃ ae af ag, ab = .returned (.slice ae af ag) /\
 Calls P 144 ⟨[.bool true, .slice ae af ag]⟩ ac fun ah ai =>
 ∃ aj ak al am, ah = .returned (.agg #[.bool aj, .slice ak al am]) /\
 ∃ wv_6, Stores P 33 ⟨r, 0, none⟩ (.agg #[.bool aj, .slice ak al am]) ai wv_6 /\
 ∃ r0_1 an ao ap, Loads P 33 ⟨r, 0, none⟩ (.agg #[.bool r0_1, .slice an ao ap]) wv_6 /\ R (.agg #[.bool r0_1, .slice an ao ap]) wv_6) /\
 ((decide ((n : Int) < 0)) = false ->
 Calls P 145 ⟨[.int .i64 n]⟩ wv fun aq ar =>
 ∃ au av aw, aq = .returned (.slice au av aw) /\
 Calls P 144 ⟨[.bool false, .slice au av aw]⟩ ar fun ax ay =>
 ∃ az b0 b1 b2, ax = .returned (.agg #[.bool az, .slice b0 b1 b2]) /\
 ∃ wv_9, Stores P 33 ⟨r, 0, none⟩ (.agg #[.bool az, .slice b0 b1 b2]) ay wv_9 /\
 ∃ r0_2 b3 b4 b5, Loads P 33 ⟨r, 0, none⟩ (.agg #[.bool r0_2, .slice b3 b4 b5]) wv_9 /\ R (.agg #[.bool r0_2, .slice b3 b4 b5]) wv_9))
theorem spec_IntOf_ret {n : Int} (h : spec_IntOf n w R) : Ret P 116 [.int .i64 n] w R := Ret.of_fsem Tryz.func116 rfl (Eq.mp (show _ = fsem P Tryz.f116 (fun k => []) _ R w from by kernel_rfl) h)
def impl_TextNat_j0 (s : ByteArray) (W : World) (R : Value -> World -> Prop) : Prop :=
 ∀ r a0, New W (.cells ⟨[]⟩ 3 (0, 0)) r a0 ->
 ∃ (a1 : Option Addr -> Nat -> Nat -> Int -> World -> Prop) (mu : Option Addr -> Nat -> Nat -> Int -> World -> Nat), a1 (some ⟨r, 0, none⟩) 0 0 ((s.size : Nat) : Int) a0 /\
 ∀ (a2 : Fr) (a3 : World) (a4 : Option Addr) (a5 a6 : Nat) (endv : Int), a1 a4 a5 a6 endv a3 ->
 ((decide ((0 : Int) < endv)) = true ->
 ∃ a7 : Int, a7 = IntKind.wrap .i64 (endv - 9) /\ ∃ a8 : Int, a8 = (if a7 > 0 then a7 else 0) /\ (0 <= (endv : Int) /\ (endv : Int) <= (s.size : Nat)) /\ (0 <= (a8 : Int) /\ (a8 : Int) <= (endv.toNat : Nat)) /\ ∃ a9 aa ab, ∃ wv_3, ConvsTo P 9 28 (.string (s.extract a8.toNat endv.toNat)) (.slice a9 aa ab) a3 wv_3 /\
 ∃ (ac : Int -> Int -> World -> Prop) (ae : Int -> Int -> World -> Nat), ac 0 0 wv_3 /\
 ∀ (af : Fr) (ag : World) (limb ah : Int), ac limb ah ag ->
 ((decide ((ah : Int) < ((aa : Nat) : Int))) = true ->
 (0 <= (ah : Int) /\ (ah : Int) < (aa : Nat)) /\ ptrS a9 fun ad => ∃ ai, Loads P 5 (ad.add (ah.toNat * 1)) (.int .u8 ai) ag /\ ∃ aj : Int, aj = IntKind.wrap .i64 (10 * limb) /\ ∃ ak : Int, ak = IntKind.wrap .u8 (ai - 48) /\ ∃ al : Int, al = IntKind.wrap .i64 ak /\ ∃ am : Int, am = IntKind.wrap .i64 (aj + al) /\ ∃ an : Int, an = IntKind.wrap .i64 (ah + 1) /\ ac am an ag /\ ae am an ag < ae limb ah ag) /\
 ((decide ((ah : Int) < ((aa : Nat) : Int))) = false ->
 ∀ ao ap, New ag (.cells ⟨[.int .i64 limb]⟩ 3 (0, 0)) ao ap ->
 ∃ aq ar au av, Appends P [31, 31] [.slice a4 a5 a6, (.slice (some ⟨ao, 0, none⟩) 1 1)] (.slice aq ar au) ap av /\
 ∃ aw : Int, aw = IntKind.wrap .i64 (endv - 9) /\ a1 aq ar au aw av /\ mu aq ar au aw av < mu a4 a5 a6 endv a3)) /\
 ((decide ((0 : Int) < endv)) = false ->
 Calls P 93 ⟨[.slice a4 a5 a6]⟩ a3 fun ax ay =>
 ∃ az b0 b1, ax = .returned (.slice az b0 b1) /\
 R (.tuple #[.slice az b0 b1, .bool true]) ay)
def impl_TextNat (s : ByteArray) (w : World) (R : Value -> World -> Prop) : Prop :=
 Calls P 156 ⟨[.string s]⟩ w fun e wv =>
 ∃ a0, e = .returned (.bool a0) /\
 ((!a0) = true ->
 (true = true ->
 (true = true ->
 R (.tuple #[.slice none 0 0, .bool false]) wv) /\
 (true = false ->
 impl_TextNat_j0 s wv R)) /\
 (true = false ->
 0 <= (0 : Int) /\ ∃ b : UInt8, s[0]? = some b /\ ((decide ((((b.toNat : Nat) : Int) : Int) = 48)) = true ->
 ((decide ((1 : Int) < ((s.size : Nat) : Int))) = true ->
 R (.tuple #[.slice none 0 0, .bool false]) wv) /\
 ((decide ((1 : Int) < ((s.size : Nat) : Int))) = false ->
 impl_TextNat_j0 s wv R)) /\
 ((decide ((((b.toNat : Nat) : Int) : Int) = 48)) = false ->
 (false = true ->
 R (.tuple #[.slice none 0 0, .bool false]) wv) /\
 (false = false ->
 impl_TextNat_j0 s wv R)))) /\
 ((!a0) = false ->
 ((decide ((450 : Int) < ((s.size : Nat) : Int))) = true ->
 (true = true ->
 R (.tuple #[.slice none 0 0, .bool false]) wv) /\
 (true = false ->
 impl_TextNat_j0 s wv R)) /\
 ((decide ((450 : Int) < ((s.size : Nat) : Int))) = false ->
 0 <= (0 : Int) /\ ∃ a1 : UInt8, s[0]? = some a1 /\ ((decide ((((a1.toNat : Nat) : Int) : Int) = 48)) = true ->
 ((decide ((1 : Int) < ((s.size : Nat) : Int))) = true ->
 R (.tuple #[.slice none 0 0, .bool false]) wv) /\
 ((decide ((1 : Int) < ((s.size : Nat) : Int))) = false ->
 impl_TextNat_j0 s wv R)) /\
 ((decide ((((a1.toNat : Nat) : Int) : Int) = 48)) = false ->
 (false = true ->
 R (.tuple #[.slice none 0 0, .bool false]) wv) /\
 (false = false ->
 impl_TextNat_j0 s wv R))))
theorem impl_TextNat_ret {s : ByteArray} (h : impl_TextNat s w R) : Ret P 123 [.string s] w R := Ret.of_fsem Tryz.func123 rfl (Eq.mp (show _ = fsem P Tryz.f123 (fun k => cond (Nat.beq k 6) [(4, .one .slice), (5, .one (.int .i64))] (cond (Nat.beq k 10) [(6, .one (.int .i64)), (42, .one (.int .i64))] ([]))) _ R w from by kernel_rfl) h)
def impl_natSmall (a0 : Option Addr) (a1 a2 : Nat) (d : Int) (w : World) (R : Value -> World -> Prop) : Prop :=
 (0 <= (((a1 : Nat) : Int) : Int) /\ (((a1 : Nat) : Int) : Int) <= ((a1 : Nat) : Int) /\ ((8 : Nat) : Int) * ((a1 : Nat) : Int) <= 281474976710656) /\
 ∀ r wv, New w (.cells ⟨zeroRow (.int .i64 0) (a1 * 1)⟩ 3 (0, 0)) r wv ->
 ∃ a3 : Int, a3 = IntKind.wrap .i64 (((a1 : Nat) : Int) - 1) /\ ∃ (a4 : Int -> Int -> World -> Prop) (mu : Int -> Int -> World -> Nat), a4 0 a3 wv /\
 ∀ (a5 : Fr) (a6 : World) (rest i : Int), a4 rest i a6 ->
 ((decide ((0 : Int) <= i)) = true ->
 ∃ a7 : Int, a7 = IntKind.wrap .i64 (rest * 1000000000) /\ (0 <= (i : Int) /\ (i : Int) < (a1 : Nat)) /\ ptrS a0 fun ad => ∃ a8, Loads P 3 (ad.add (i.toNat * 1)) (.int .i64 a8) a6 /\ ∃ a9 : Int, a9 = IntKind.wrap .i64 (a7 + a8) /\ (d : Int) ≠ 0 /\ ∃ aa : Int, aa = IntKind.wrap .i64 (Int.tdiv a9 d) /\ (0 <= (i : Int) /\ (i : Int) < (a1 : Nat)) /\ ∃ wv_2, Stores P 3 ((⟨r, 0, none⟩ : Addr).add (i.toNat * 1)) (.int .i64 aa) a6 wv_2 /\
 (d : Int) ≠ 0 /\ ∃ ab : Int, ab = Int.tmod a9 d /\ ∃ ac : Int, ac = IntKind.wrap .i64 (i - 1) /\ a4 ab ac wv_2 /\ mu ab ac wv_2 < mu rest i a6) /\
 ((decide ((0 : Int) <= i)) = false ->
 Calls P 93 ⟨[(.slice (some ⟨r, 0, none⟩) a1 a1)]⟩ a6 fun e ae =>
 ∃ af ag ah, e = .returned (.slice af ag ah) /\
 R (.tuple #[.slice af ag ah, .int .i64 rest]) ae)
theorem impl_natSmall_ret {a : Option Addr} {a0 a1 : Nat} {d : Int} (h : impl_natSmall a a0 a1 d w R) : Ret P 124 [.slice a a0 a1, .int .i64 d] w R := Ret.of_fsem Tryz.func124 rfl (Eq.mp (show _ = fsem P Tryz.f124 (fun k => cond (Nat.beq k 5) [(7, .one (.int .i64)), (8, .one (.int .i64))] ([])) _ R w from by kernel_rfl) h)
def impl_DecCmp_j0 (r a0 : Nat) (W : World) (R : Value -> World -> Prop) : Prop :=
 ∃ a1, Loads P 3 ((⟨r, 0, none⟩ : Addr).add 2) (.int .i64 a1) W /\ ∃ a2, Loads P 3 ((⟨a0, 0, none⟩ : Addr).add 2) (.int .i64 a2) W /\ ∃ a3 : Int, a3 = (if a2 > a1 then a2 else a1) /\ Calls P 157 ⟨[.int .i64 a3]⟩ W fun a4 a5 =>
 ∃ (a6 : Value), a4 = .returned a6 /\
 ∃ a7 a8 a9 aa ab, (∀ wv_4, Ext a5.drew wv_4 -> Loads P 46 ⟨r, 0, none⟩ (.agg #[.bool a7, .slice a8 a9 aa, .int .i64 ab]) wv_4) /\ CallW P a6 [.agg #[.bool a7, .slice a8 a9 aa, .int .i64 ab]] a5.drew fun ac ae =>
 ∃ af ag ah ai, ac = .returned (.agg #[.bool af, .slice ag ah ai]) /\
 Ext a5.drew ae /\ ∃ aj ak al am an, (∀ wv_6, Ext a5.drew wv_6 -> Loads P 46 ⟨a0, 0, none⟩ (.agg #[.bool aj, .slice ak al am, .int .i64 an]) wv_6) /\ CallW P a6 [.agg #[.bool aj, .slice ak al am, .int .i64 an]] ae fun ao ap =>
 ∃ aq ar au av, ao = .returned (.agg #[.bool aq, .slice ar au av]) /\
 Calls P 57 ⟨[.agg #[.bool af, .slice ag ah ai], .agg #[.bool aq, .slice ar au av]]⟩ ap fun aw ax =>
 ∃ ay, aw = .returned (.int .i64 ay) /\
 R (.int .i64 ay) ax
def impl_DecCmp (d0 : Bool) (a0 : Option Addr) (a1 a2 : Nat) (d2 : Int) (e0 : Bool) (a3 : Option Addr) (a4 a5 : Nat) (e2 : Int) (w : World) (R : Value -> World -> Prop) : Prop :=
 ∀ r wv, New w (.cells ⟨[.bool d0, .slice a0 a1 a2, .int .i64 d2]⟩ 46 (0, 0)) r wv ->
 ∀ a6 a7, New wv (.cells ⟨[.bool e0, .slice a3 a4 a5, .int .i64 e2]⟩ 46 (0, 0)) a6 a7 ->
 ∃ a8 a9 aa ab ac, Loads P 46 ⟨r, 0, none⟩ (.agg #[.bool a8, .slice a9 aa ab, .int .i64 ac]) a7 /\ Calls P 59 ⟨[.agg #[.bool a8, .slice a9 aa ab, .int .i64 ac]]⟩ a7 fun e ae =>
 ∃ t7, e = .returned (.bool t7) /\
 ((!t7) = true ->
 (true = true ->
 R (.int .i64 0) ae) /\
 (true = false ->
 impl_DecCmp_j0 r a6 ae R)) /\
 ((!t7) = false ->
 ∃ af ag ah ai aj, Loads P 46 ⟨a6, 0, none⟩ (.agg #[.bool af, .slice ag ah ai, .int .i64 aj]) ae /\ Calls P 59 ⟨[.agg #[.bool af, .slice ag ah ai, .int .i64 aj]]⟩ ae fun ak al =>
 ∃ am, ak = .returned (.bool am) /\
 ((!am) = true ->
 R (.int .i64 0) al) /\
 ((!am) = false ->
 impl_DecCmp_j0 r a6 al R))
theorem impl_DecCmp_ret {d0 : Bool} {a : Option Addr} {a0 a1 : Nat} {d2 : Int} {e0 : Bool} {a2 : Option Addr} {a3 a4 : Nat} {e2 : Int} (h : impl_DecCmp d0 a a0 a1 d2 e0 a2 a3 a4 e2 w R) : Ret P 125 [.agg #[.bool d0, .slice a a0 a1, .int .i64 d2], .agg #[.bool e0, .slice a2 a3 a4, .int .i64 e2]] w R := Ret.of_fsem Tryz.func125 rfl (Eq.mp (show _ = fsem P Tryz.f125 (fun k => []) _ R w from by kernel_rfl) h)
def spec_l01Pick (c a0 : Option Addr) (a1 a2 : Nat) (w : World) (R : Value -> World -> Prop) : Prop :=
 Calls P 43 ⟨[(.pointer c), (.int .i64 ((a1 : Nat) : Int))]⟩ w fun e wv =>
 ∃ t9, e = .returned (.int .i64 t9) /\
 (0 <= (t9 : Int) /\ (t9 : Int) < (a1 : Nat)) /\ ptrS a0 fun ad => ∃ a3, Loads P 3 (ad.add (t9.toNat * 1)) (.int .i64 a3) wv /\ R (.int .i64 a3) wv
theorem spec_l01Pick_ret {c a : Option Addr} {a0 a1 : Nat} (h : spec_l01Pick c a a0 a1 w R) : Ret P 127 [.pointer c, .slice a a0 a1] w R := Ret.of_fsem Tryz.func127 rfl (Eq.mp (show _ = fsem P Tryz.f127 (fun k => []) _ R w from by kernel_rfl) h)
def impl_decOf (num0 : Bool) (a0 : Option Addr) (a1 a2 : Nat) (scale : Int) (w : World) (R : Value -> World -> Prop) : Prop :=
 ∀ r wv, New w (.cells ⟨[.bool num0, .slice a0 a1 a2]⟩ 33 (0, 0)) r wv ->
 ∀ a3 a4, New wv (.cells ⟨[.bool false, .slice none 0 0, .int .i64 0]⟩ 46 (0, 0)) a3 a4 ->
 ∃ a5 a6 a7 a8, Loads P 33 ⟨r, 0, none⟩ (.agg #[.bool a5, .slice a6 a7 a8]) a4 /\ ∀ a9 aa, New a4 (.cells ⟨[.bool false, .slice none 0 0, .int .i64 0]⟩ 46 (0, 0)) a9 aa ->
 ∃ wv_3, Stores P 46 ⟨a9, 0, none⟩ (.agg #[.bool a5, .slice a6 a7 a8, .int .i64 scale]) aa wv_3 /\
 ∃ ab ac ae af ag, Loads P 46 ⟨a9, 0, none⟩ (.agg #[.bool ab, .slice ac ae af, .int .i64 ag]) wv_3 /\ Calls P 59 ⟨[.agg #[.bool ab, .slice ac ae af, .int .i64 ag]]⟩ wv_3 fun e ah =>
 ∃ ai, e = .returned (.bool ai) /\
 (ai = true ->
 ∃ aj ak al am an, Loads P 46 ⟨a9, 0, none⟩ (.agg #[.bool aj, .slice ak al am, .int .i64 an]) ah /\ ∃ wv_5, Stores P 46 ⟨a3, 0, none⟩ (.agg #[.bool aj, .slice ak al am, .int .i64 an]) ah wv_5 /\
 ∃ r0 ao ap aq r2, Loads P 46 ⟨a3, 0, none⟩ (.agg #[.bool r0, .slice ao ap aq, .int .i64 r2]) wv_5 /\ R (.tuple #[.agg #[.bool r0, .slice ao ap aq, .int .i64 r2], .bool true]) wv_5) /\
 (ai = false ->
 ∃ wv_6, Stores P 46 ⟨a3, 0, none⟩ (.agg #[.bool false, .slice none 0 0, .int .i64 0]) ah wv_6 /\
 ∃ r0_1 ar au av r2_1, Loads P 46 ⟨a3, 0, none⟩ (.agg #[.bool r0_1, .slice ar au av, .int .i64 r2_1]) wv_6 /\ R (.tuple #[.agg #[.bool r0_1, .slice ar au av, .int .i64 r2_1], .bool false]) wv_6)
theorem impl_decOf_ret {a : Bool} {a0 : Option Addr} {a1 a2 : Nat} {a3 : Int} (h : impl_decOf a a0 a1 a2 a3 w R) : Ret P 128 [.agg #[.bool a, .slice a0 a1 a2], .int .i64 a3] w R := Ret.of_fsem Tryz.func128 rfl (Eq.mp (show _ = fsem P Tryz.f128 (fun k => []) _ R w from by kernel_rfl) h)
def impl_Pad (s : ByteArray) (n : Int) (w : World) (R : Value -> World -> Prop) : Prop :=
 ((decide ((n : Int) <= ((s.size : Nat) : Int))) = true ->
 (true = true ->
 R (.string s) w) /\
 (true = false ->
 ∃ a0 : Int, a0 = IntKind.wrap .i64 (n - ((s.size : Nat) : Int)) /\ Calls P 159 ⟨[(.string (S [48])), .int .i64 a0]⟩ w fun e wv =>
 ∃ a1, e = .returned (.string a1) /\
 a1.size + s.size <= 9223372036854775807 /\ ∃ a2 : ByteArray, a2 = a1 ++ s /\ R (.string a2) wv)) /\
 ((decide ((n : Int) <= ((s.size : Nat) : Int))) = false ->
 ((decide ((2000 : Int) < n)) = true ->
 R (.string s) w) /\
 ((decide ((2000 : Int) < n)) = false ->
 ∃ a3 : Int, a3 = IntKind.wrap .i64 (n - ((s.size : Nat) : Int)) /\ Calls P 159 ⟨[(.string (S [48])), .int .i64 a3]⟩ w fun a4 a5 =>
 ∃ a6, a4 = .returned (.string a6) /\
 a6.size + s.size <= 9223372036854775807 /\ ∃ a7 : ByteArray, a7 = a6 ++ s /\ R (.string a7) a5))
theorem impl_Pad_ret {s : ByteArray} {n : Int} (h : impl_Pad s n w R) : Ret P 129 [.string s, .int .i64 n] w R := Ret.of_fsem Tryz.func129 rfl (Eq.mp (show _ = fsem P Tryz.f129 (fun k => []) _ R w from by kernel_rfl) h)
def impl_natText (a0 : Option Addr) (a1 a2 : Nat) (w : World) (R : Value -> World -> Prop) : Prop :=
 ((decide ((((a1 : Nat) : Int) : Int) = 0)) = true ->
 R (.string (S [48])) w) /\
 ((decide ((((a1 : Nat) : Int) : Int) = 0)) = false ->
 ∃ a3 : Int, a3 = IntKind.wrap .i64 (((a1 : Nat) : Int) - 1) /\ (0 <= (a3 : Int) /\ (a3 : Int) < (a1 : Nat)) /\ ptrS a0 fun ad => ∃ a4, Loads P 3 (ad.add (a3.toNat * 1)) (.int .i64 a4) w /\ Calls P 54 ⟨[.int .i64 a4]⟩ w fun e wv =>
 ∃ a5, e = .returned (.string a5) /\
 ∃ a6 : Int, a6 = IntKind.wrap .i64 (((a1 : Nat) : Int) - 2) /\ ∃ (a7 : ByteArray -> Int -> World -> Prop) (mu : ByteArray -> Int -> World -> Nat), a7 a5 a6 wv /\
 ∀ (a8 : Fr) (a9 : World) (text : ByteArray) (i : Int), a7 text i a9 ->
 ((decide ((0 : Int) <= i)) = true ->
 (0 <= (i : Int) /\ (i : Int) < (a1 : Nat)) /\ ptrS a0 fun aa => ∃ ab, Loads P 3 (aa.add (i.toNat * 1)) (.int .i64 ab) a9 /\ Calls P 54 ⟨[.int .i64 ab]⟩ a9 fun ac ae =>
 ∃ af, ac = .returned (.string af) /\
 Calls P 129 ⟨[.string af, .int .i64 9]⟩ ae fun ag ah =>
 ∃ ai, ag = .returned (.string ai) /\
 text.size + ai.size <= 9223372036854775807 /\ ∃ aj : ByteArray, aj = text ++ ai /\ ∃ ak : Int, ak = IntKind.wrap .i64 (i - 1) /\ a7 aj ak ah /\ mu aj ak ah < mu text i a9) /\
 ((decide ((0 : Int) <= i)) = false ->
 R (.string text) a9))
theorem impl_natText_ret {a : Option Addr} {a0 a1 : Nat} (h : impl_natText a a0 a1 w R) : Ret P 130 [.slice a a0 a1] w R := Ret.of_fsem Tryz.func130 rfl (Eq.mp (show _ = fsem P Tryz.f130 (fun k => cond (Nat.beq k 6) [(3, .one .str), (4, .one (.int .i64))] ([])) _ R w from by kernel_rfl) h)
def impl_DecAt_j0 (scale : Int) (r a0 : Nat) (W : World) (R : Value -> World -> Prop) : Prop :=
 ∃ a1, Loads P 3 ((⟨r, 0, none⟩ : Addr).add 2) (.int .i64 a1) W /\ ((decide ((a1 : Int) <= scale)) = true ->
 Calls P 157 ⟨[.int .i64 scale]⟩ W.drew fun a2 a3 =>
 ∃ (a4 : Value), a2 = .returned a4 /\
 Ext W.drew a3 /\ ∃ a5 a6 a7 a8 a9, (∀ wv_5, Ext W.drew wv_5 -> Loads P 46 ⟨r, 0, none⟩ (.agg #[.bool a5, .slice a6 a7 a8, .int .i64 a9]) wv_5) /\ CallW P a4 [.agg #[.bool a5, .slice a6 a7 a8, .int .i64 a9]] a3 fun aa ab =>
 ∃ ac ae af ag, aa = .returned (.agg #[.bool ac, .slice ae af ag]) /\
 Calls P 128 ⟨[.agg #[.bool ac, .slice ae af ag], .int .i64 scale]⟩ ab fun ah ai =>
 ∃ aj ak al am an ao, ah = .returned (.tuple #[.agg #[.bool aj, .slice ak al am, .int .i64 an], .bool ao]) /\
 ∃ wv_8, Stores P 46 ⟨a0, 0, none⟩ (.agg #[.bool aj, .slice ak al am, .int .i64 an]) ai wv_8 /\
 ∃ r0_1 ap aq ar r2_1, Loads P 46 ⟨a0, 0, none⟩ (.agg #[.bool r0_1, .slice ap aq ar, .int .i64 r2_1]) wv_8 /\ R (.tuple #[.agg #[.bool r0_1, .slice ap aq ar, .int .i64 r2_1], .bool ao]) wv_8) /\
 ((decide ((a1 : Int) <= scale)) = false ->
 ∃ au av aw, (∀ wv_9, Ext W.drew wv_9 -> Loads P 31 (((⟨r, 0, none⟩ : Addr).add 0).add 1) (.slice au av aw) wv_9) /\ ∃ ax, (∀ wv_10, Ext W.drew wv_10 -> Loads P 3 ((⟨r, 0, none⟩ : Addr).add 2) (.int .i64 ax) wv_10) /\ ∃ ay : Int, ay = IntKind.wrap .i64 (ax - scale) /\ Calls P 61 ⟨[.int .i64 ay]⟩ W.drew fun az b0 =>
 ∃ b1 b2 b3, az = .returned (.slice b1 b2 b3) /\
 Ext W.drew b0 /\ Calls P 104 ⟨[.slice au av aw, .slice b1 b2 b3]⟩ b0 fun b4 b5 =>
 ∃ b6 b7 b8 b9 ba bb, b4 = .returned (.tuple #[.slice b6 b7 b8, .slice b9 ba bb]) /\
 ((decide ((0 : Int) < ((ba : Nat) : Int))) = true ->
 ∃ wv_13, Stores P 46 ⟨a0, 0, none⟩ (.agg #[.bool false, .slice none 0 0, .int .i64 0]) b5 wv_13 /\
 ∃ r0_2 bc bd be r2_2, Loads P 46 ⟨a0, 0, none⟩ (.agg #[.bool r0_2, .slice bc bd be, .int .i64 r2_2]) wv_13 /\ R (.tuple #[.agg #[.bool r0_2, .slice bc bd be, .int .i64 r2_2], .bool false]) wv_13) /\
 ((decide ((0 : Int) < ((ba : Nat) : Int))) = false ->
 ∃ bf, Loads P 4 (((⟨r, 0, none⟩ : Addr).add 0).add 0) (.bool bf) b5 /\ Calls P 101 ⟨[.bool bf, .slice b6 b7 b8]⟩ b5 fun bg bh =>
 ∃ bi bj bk bl, bg = .returned (.agg #[.bool bi, .slice bj bk bl]) /\
 Calls P 128 ⟨[.agg #[.bool bi, .slice bj bk bl], .int .i64 scale]⟩ bh fun bm bn =>
 ∃ bo bp bq br bs bt, bm = .returned (.tuple #[.agg #[.bool bo, .slice bp bq br, .int .i64 bs], .bool bt]) /\
 ∃ wv_16, Stores P 46 ⟨a0, 0, none⟩ (.agg #[.bool bo, .slice bp bq br, .int .i64 bs]) bn wv_16 /\
 ∃ r0_3 bu bv bw r2_3, Loads P 46 ⟨a0, 0, none⟩ (.agg #[.bool r0_3, .slice bu bv bw, .int .i64 r2_3]) wv_16 /\ R (.tuple #[.agg #[.bool r0_3, .slice bu bv bw, .int .i64 r2_3], .bool bt]) wv_16))
def impl_DecAt (d0 : Bool) (a0 : Option Addr) (a1 a2 : Nat) (d2 scale : Int) (w : World) (R : Value -> World -> Prop) : Prop :=
 ∀ r wv, New w (.cells ⟨[.bool d0, .slice a0 a1 a2, .int .i64 d2]⟩ 46 (0, 0)) r wv ->
 ∀ a3 a4, New wv (.cells ⟨[.bool false, .slice none 0 0, .int .i64 0]⟩ 46 (0, 0)) a3 a4 ->
 ∃ a5 a6 a7 a8 a9, Loads P 46 ⟨r, 0, none⟩ (.agg #[.bool a5, .slice a6 a7 a8, .int .i64 a9]) a4 /\ Calls P 59 ⟨[.agg #[.bool a5, .slice a6 a7 a8, .int .i64 a9]]⟩ a4 fun e aa =>
 ∃ t9, e = .returned (.bool t9) /\
 ((!t9) = true ->
 (true = true ->
 ∃ wv_3, Stores P 46 ⟨a3, 0, none⟩ (.agg #[.bool false, .slice none 0 0, .int .i64 0]) aa wv_3 /\
 ∃ r0 ab ac ae r2, Loads P 46 ⟨a3, 0, none⟩ (.agg #[.bool r0, .slice ab ac ae, .int .i64 r2]) wv_3 /\ R (.tuple #[.agg #[.bool r0, .slice ab ac ae, .int .i64 r2], .bool false]) wv_3) /\
 (true = false ->
 impl_DecAt_j0 scale r a3 aa R)) /\
 ((!t9) = false ->
 Calls P 102 ⟨[.int .i64 scale]⟩ aa fun af ag =>
 ∃ ah, af = .returned (.bool ah) /\
 ((!ah) = true ->
 ∃ wv_18, Stores P 46 ⟨a3, 0, none⟩ (.agg #[.bool false, .slice none 0 0, .int .i64 0]) ag wv_18 /\
 ∃ r0_4 ai aj ak r2_4, Loads P 46 ⟨a3, 0, none⟩ (.agg #[.bool r0_4, .slice ai aj ak, .int .i64 r2_4]) wv_18 /\ R (.tuple #[.agg #[.bool r0_4, .slice ai aj ak, .int .i64 r2_4], .bool false]) wv_18) /\
 ((!ah) = false ->
 impl_DecAt_j0 scale r a3 ag R))
theorem impl_DecAt_ret {d0 : Bool} {a : Option Addr} {a0 a1 : Nat} {d2 a2 : Int} (h : impl_DecAt d0 a a0 a1 d2 a2 w R) : Ret P 131 [.agg #[.bool d0, .slice a a0 a1, .int .i64 d2], .int .i64 a2] w R := Ret.of_fsem Tryz.func131 rfl (Eq.mp (show _ = fsem P Tryz.f131 (fun k => []) _ R w from by kernel_rfl) h)
def impl_divStep_j0 (q_1 : Int) (W : World) (R : Value -> World -> Prop) : Prop :=
 R (.int .i64 q_1) W
def impl_divStep_j1 (q_2 : Int) (a0 : World) (R : Value -> World -> Prop) : Prop :=
 R (.int .i64 q_2) a0
def impl_divStep_j2 (q_3 : Int) (a0 : World) (R : Value -> World -> Prop) : Prop :=
 R (.int .i64 q_3) a0
def impl_divStep_j3 (q_4 : Int) (a0 : World) (R : Value -> World -> Prop) : Prop :=
 R (.int .i64 q_4) a0
def impl_divStep (a0 : Option Addr) (a1 a2 : Nat) (a3 : Option Addr) (a4 a5 : Nat) (w : World) (R : Value -> World -> Prop) : Prop :=
 (0 <= (((a4 : Nat) : Int) : Int) /\ (((a4 : Nat) : Int) : Int) < (a1 : Nat)) /\ ptrS a0 fun ad => ∃ a6, (∀ wv, Ext w.drew wv -> Loads P 3 (ad.add (a4 * 1)) (.int .i64 a6) wv) /\ ∃ a7 : Int, a7 = IntKind.wrap .i64 (a6 * 1000000000) /\ ∃ a8 : Int, a8 = IntKind.wrap .i64 (((a4 : Nat) : Int) - 1) /\ (0 <= (a8 : Int) /\ (a8 : Int) < (a1 : Nat)) /\ ptrS a0 fun a9 => ∃ aa, (∀ wv_1, Ext w.drew wv_1 -> Loads P 3 (a9.add (a8.toNat * 1)) (.int .i64 aa) wv_1) /\ ∃ ab : Int, ab = IntKind.wrap .i64 (a7 + aa) /\ ∃ ac : Int, ac = IntKind.wrap .i64 (((a4 : Nat) : Int) - 1) /\ (0 <= (ac : Int) /\ (ac : Int) < (a4 : Nat)) /\ ptrS a3 fun ae => ∃ af, Loads P 3 (ae.add (ac.toNat * 1)) (.int .i64 af) w.drew /\ (af : Int) ≠ 0 /\ ∃ ag : Int, ag = IntKind.wrap .i64 (Int.tdiv ab af) /\ ∃ ah : Int, ah = (if 999999999 < ag then 999999999 else ag) /\ ∃ (ai : Int -> World -> Prop) (mu : Int -> World -> Nat), ai ah w.drew /\
 ∀ (aj : Fr) (ak : World) (q : Int), ai q ak ->
 ((decide ((0 : Int) < q)) = true ->
 ∃ al : Int, al = IntKind.wrap .i64 (((a4 : Nat) : Int) - 1) /\ (0 <= (al : Int) /\ (al : Int) < (a4 : Nat)) /\ ptrS a3 fun am => ∃ an, (∀ wv_3, Ext ak.drew wv_3 -> Loads P 3 (am.add (al.toNat * 1)) (.int .i64 an) wv_3) /\ ∃ ao : Int, ao = IntKind.wrap .i64 (q * an) /\ ∃ ap : Int, ap = IntKind.wrap .i64 (ab - ao) /\ ((decide ((ap : Int) < 1000000000)) = true ->
 ∃ aq : Int, aq = IntKind.wrap .i64 (((a4 : Nat) : Int) - 2) /\ (0 <= (aq : Int) /\ (aq : Int) < (a4 : Nat)) /\ ptrS a3 fun ar => ∃ au, (∀ wv_4, Ext ak.drew wv_4 -> Loads P 3 (ar.add (aq.toNat * 1)) (.int .i64 au) wv_4) /\ ∃ av : Int, av = IntKind.wrap .i64 (q * au) /\ ∃ aw : Int, aw = IntKind.wrap .i64 (((a4 : Nat) : Int) - 1) /\ (0 <= (aw : Int) /\ (aw : Int) < (a4 : Nat)) /\ ptrS a3 fun ax => ∃ ay, (∀ wv_5, Ext ak.drew wv_5 -> Loads P 3 (ax.add (aw.toNat * 1)) (.int .i64 ay) wv_5) /\ ∃ az : Int, az = IntKind.wrap .i64 (q * ay) /\ ∃ b0 : Int, b0 = IntKind.wrap .i64 (ab - az) /\ ∃ b1 : Int, b1 = IntKind.wrap .i64 (b0 * 1000000000) /\ ∃ b2 : Int, b2 = IntKind.wrap .i64 (((a4 : Nat) : Int) - 2) /\ (0 <= (b2 : Int) /\ (b2 : Int) < (a1 : Nat)) /\ ptrS a0 fun b3 => ∃ b4, (∀ wv_6, Ext ak.drew wv_6 -> Loads P 3 (b3.add (b2.toNat * 1)) (.int .i64 b4) wv_6) /\ ∃ b5 : Int, b5 = IntKind.wrap .i64 (b1 + b4) /\ ((decide ((b5 : Int) < av)) = true ->
 ∃ b6 : Int, b6 = IntKind.wrap .i64 (q - 1) /\ ai b6 ak.drew /\ mu b6 ak.drew < mu q ak) /\
 ((decide ((b5 : Int) < av)) = false ->
 Calls P 162 ⟨[.slice a0 a1 a2, .slice a3 a4 a5, .int .i64 q]⟩ ak.drew fun e b7 =>
 ∃ b8, e = .returned (.bool b8) /\
 (b8 = true ->
 ∃ b9 : Int, b9 = IntKind.wrap .i64 (q - 1) /\ Calls P 163 ⟨[.slice a0 a1 a2, .slice a3 a4 a5]⟩ b7 fun ba bb =>
 ba = .returned (.tuple #[]) /\
 impl_divStep_j0 b9 bb R) /\
 (b8 = false ->
 impl_divStep_j0 q b7 R))) /\
 ((decide ((ap : Int) < 1000000000)) = false ->
 (false = true ->
 ∃ bc : Int, bc = IntKind.wrap .i64 (q - 1) /\ ai bc ak.drew /\ mu bc ak.drew < mu q ak) /\
 (false = false ->
 Calls P 162 ⟨[.slice a0 a1 a2, .slice a3 a4 a5, .int .i64 q]⟩ ak.drew fun bd be =>
 ∃ bf, bd = .returned (.bool bf) /\
 (bf = true ->
 ∃ bg : Int, bg = IntKind.wrap .i64 (q - 1) /\ Calls P 163 ⟨[.slice a0 a1 a2, .slice a3 a4 a5]⟩ be fun bh bi =>
 bh = .returned (.tuple #[]) /\
 impl_divStep_j1 bg bi R) /\
 (bf = false ->
 impl_divStep_j1 q be R)))) /\
 ((decide ((0 : Int) < q)) = false ->
 (false = true ->
 ∃ bj : Int, bj = IntKind.wrap .i64 (((a4 : Nat) : Int) - 2) /\ (0 <= (bj : Int) /\ (bj : Int) < (a4 : Nat)) /\ ptrS a3 fun bk => ∃ bl, (∀ wv_11, Ext ak.drew wv_11 -> Loads P 3 (bk.add (bj.toNat * 1)) (.int .i64 bl) wv_11) /\ ∃ bm : Int, bm = IntKind.wrap .i64 (q * bl) /\ ∃ bn : Int, bn = IntKind.wrap .i64 (((a4 : Nat) : Int) - 1) /\ (0 <= (bn : Int) /\ (bn : Int) < (a4 : Nat)) /\ ptrS a3 fun bo => ∃ bp, (∀ wv_12, Ext ak.drew wv_12 -> Loads P 3 (bo.add (bn.toNat * 1)) (.int .i64 bp) wv_12) /\ ∃ bq : Int, bq = IntKind.wrap .i64 (q * bp) /\ ∃ br : Int, br = IntKind.wrap .i64 (ab - bq) /\ ∃ bs : Int, bs = IntKind.wrap .i64 (br * 1000000000) /\ ∃ bt : Int, bt = IntKind.wrap .i64 (((a4 : Nat) : Int) - 2) /\ (0 <= (bt : Int) /\ (bt : Int) < (a1 : Nat)) /\ ptrS a0 fun bu => ∃ bv, (∀ wv_13, Ext ak.drew wv_13 -> Loads P 3 (bu.add (bt.toNat * 1)) (.int .i64 bv) wv_13) /\ ∃ bw : Int, bw = IntKind.wrap .i64 (bs + bv) /\ ((decide ((bw : Int) < bm)) = true ->
 ∃ bx : Int, bx = IntKind.wrap .i64 (q - 1) /\ ai bx ak.drew /\ mu bx ak.drew < mu q ak) /\
 ((decide ((bw : Int) < bm)) = false ->
 Calls P 162 ⟨[.slice a0 a1 a2, .slice a3 a4 a5, .int .i64 q]⟩ ak.drew fun bz c0 =>
 ∃ c1, bz = .returned (.bool c1) /\
 (c1 = true ->
 ∃ c2 : Int, c2 = IntKind.wrap .i64 (q - 1) /\ Calls P 163 ⟨[.slice a0 a1 a2, .slice a3 a4 a5]⟩ c0 fun c3 c4 =>
 c3 = .returned (.tuple #[]) /\
 impl_divStep_j2 c2 c4 R) /\
 (c1 = false ->
 impl_divStep_j2 q c0 R))) /\
 (false = false ->
 (false = true ->
 ∃ c5 : Int, c5 = IntKind.wrap .i64 (q - 1) /\ ai c5 ak.drew /\ mu c5 ak.drew < mu q ak) /\
 (false = false ->
 Calls P 162 ⟨[.slice a0 a1 a2, .slice a3 a4 a5, .int .i64 q]⟩ ak.drew fun c6 c7 =>
 ∃ c8, c6 = .returned (.bool c8) /\
 (c8 = true ->
 ∃ c9 : Int, c9 = IntKind.wrap .i64 (q - 1) /\ Calls P 163 ⟨[.slice a0 a1 a2, .slice a3 a4 a5]⟩ c7 fun ca cb =>
 ca = .returned (.tuple #[]) /\
 impl_divStep_j3 c9 cb R) /\
 (c8 = false ->
 impl_divStep_j3 q c7 R))))
theorem impl_divStep_ret {a : Option Addr} {a0 a1 : Nat} {a2 : Option Addr} {a3 a4 : Nat} (h : impl_divStep a a0 a1 a2 a3 a4 w R) : Ret P 135 [.slice a a0 a1, .slice a2 a3 a4] w R := Ret.of_fsem Tryz.func135 rfl (Eq.mp (show _ = fsem P Tryz.f135 (fun k => cond (Nat.beq k 5) [(7, .one (.int .i64))] ([])) _ R w from by kernel_rfl) h)
def impl_currencyOf (code : ByteArray) (w : World) (R : Value -> World -> Prop) : Prop :=
 ∀ r wv, New w (.cells ⟨[.string ByteArray.empty, .string ByteArray.empty, .int .i64 0, .int .i64 0]⟩ 146 (0, 0)) r wv ->
 ∃ (t6 : Value), Loads P 166 ⟨0, 0, none⟩ t6 wv /\ ∃ (a0 : Int -> World -> Prop) (mu : Int -> World -> Nat), a0 0 wv /\
 ∀ (a1 : Fr) (a2 : World) (t7 : Int), a0 t7 a2 ->
 ((decide ((t7 : Int) < 20)) = true ->
 indexS P 166 t6 (.int .i64 t7) fun (el : Value) => ∀ a3 a4, New a2 (.cells ⟨[.string ByteArray.empty, .string ByteArray.empty, .int .i64 0, .int .i64 0]⟩ 146 (0, 0)) a3 a4 ->
 ∃ wv_3, Stores P 146 ⟨a3, 0, none⟩ el a4 wv_3 /\
 ∃ a5, Loads P 9 ((⟨a3, 0, none⟩ : Addr).add 0) (.string a5) wv_3 /\ ((decide (a5 = code)) = true ->
 ∃ a6 a7 a8 a9, Loads P 146 ⟨a3, 0, none⟩ (.agg #[.string a6, .string a7, .int .i64 a8, .int .i64 a9]) wv_3 /\ ∃ wv_4, Stores P 146 ⟨r, 0, none⟩ (.agg #[.string a6, .string a7, .int .i64 a8, .int .i64 a9]) wv_3 wv_4 /\
 ∃ r0 r1 r2 r3, Loads P 146 ⟨r, 0, none⟩ (.agg #[.string r0, .string r1, .int .i64 r2, .int .i64 r3]) wv_4 /\ R (.tuple #[.agg #[.string r0, .string r1, .int .i64 r2, .int .i64 r3], .bool true]) wv_4) /\
 ((decide (a5 = code)) = false ->
 ∃ aa : Int, aa = IntKind.wrap .i64 (t7 + 1) /\ a0 aa wv_3 /\ mu aa wv_3 < mu t7 a2)) /\
 ((decide ((t7 : Int) < 20)) = false ->
 ∃ wv_5, Stores P 146 ⟨r, 0, none⟩ (.agg #[.string ByteArray.empty, .string ByteArray.empty, .int .i64 0, .int .i64 0]) a2 wv_5 /\
 ∃ r0_1 r1_1 r2_1 r3_1, Loads P 146 ⟨r, 0, none⟩ (.agg #[.string r0_1, .string r1_1, .int .i64 r2_1, .int .i64 r3_1]) wv_5 /\ R (.tuple #[.agg #[.string r0_1, .string r1_1, .int .i64 r2_1, .int .i64 r3_1], .bool false]) wv_5)
theorem impl_currencyOf_ret {a : ByteArray} (h : impl_currencyOf a w R) : Ret P 136 [.string a] w R := Ret.of_fsem Tryz.func136 rfl (Eq.mp (show _ = fsem P Tryz.f136 (fun k => cond (Nat.beq k 3) [(7, .one (.int .i64))] ([])) _ R w from by kernel_rfl) h)
def impl_RatRound (r0 : Bool) (a0 : Option Addr) (a1 a2 : Nat) (a3 : Option Addr) (a4 a5 : Nat) (m : Int) (w : World) (R : Value -> World -> Prop) : Prop :=
 ∀ r wv, New w (.cells ⟨[.bool r0, .slice a0 a1 a2, .slice a3 a4 a5]⟩ 35 (0, 0)) r wv ->
 ∀ a6 a7, New wv (.cells ⟨[.bool false, .slice none 0 0]⟩ 33 (0, 0)) a6 a7 ->
 ∃ a8 a9 aa ab ac ae af, Loads P 35 ⟨r, 0, none⟩ (.agg #[.bool a8, .slice a9 aa ab, .slice ac ae af]) a7 /\ Calls P 63 ⟨[.agg #[.bool a8, .slice a9 aa ab, .slice ac ae af]]⟩ a7 fun e ag =>
 ∃ t7, e = .returned (.bool t7) /\
 ((!t7) = true ->
 (true = true ->
 ∃ wv_3, Stores P 33 ⟨a6, 0, none⟩ (.agg #[.bool false, .slice none 0 0]) ag wv_3 /\
 ∃ r0_1 ah ai aj, Loads P 33 ⟨a6, 0, none⟩ (.agg #[.bool r0_1, .slice ah ai aj]) wv_3 /\ R (.tuple #[.agg #[.bool r0_1, .slice ah ai aj], .bool false]) wv_3) /\
 (true = false ->
 ∃ ak al am an, Loads P 33 ((⟨r, 0, none⟩ : Addr).add 0) (.agg #[.bool ak, .slice al am an]) ag /\ ∃ ao ap aq, Loads P 31 ((⟨r, 0, none⟩ : Addr).add 2) (.slice ao ap aq) ag /\ Calls P 165 ⟨[.agg #[.bool ak, .slice al am an], .slice ao ap aq, .int .i64 m]⟩ ag fun ar au =>
 ∃ av aw ax ay, ar = .returned (.agg #[.bool av, .slice aw ax ay]) /\
 ∃ wv_5, Stores P 33 ⟨a6, 0, none⟩ (.agg #[.bool av, .slice aw ax ay]) au wv_5 /\
 ∃ r0_2 az b0 b1, Loads P 33 ⟨a6, 0, none⟩ (.agg #[.bool r0_2, .slice az b0 b1]) wv_5 /\ R (.tuple #[.agg #[.bool r0_2, .slice az b0 b1], .bool true]) wv_5)) /\
 ((!t7) = false ->
 Calls P 164 ⟨[.int .i64 m]⟩ ag fun b2 b3 =>
 ∃ b4, b2 = .returned (.bool b4) /\
 ((!b4) = true ->
 ∃ wv_7, Stores P 33 ⟨a6, 0, none⟩ (.agg #[.bool false, .slice none 0 0]) b3 wv_7 /\
 ∃ r0_3 b5 b6 b7, Loads P 33 ⟨a6, 0, none⟩ (.agg #[.bool r0_3, .slice b5 b6 b7]) wv_7 /\ R (.tuple #[.agg #[.bool r0_3, .slice b5 b6 b7], .bool false]) wv_7) /\
 ((!b4) = false ->
 ∃ b8 b9 ba bb, Loads P 33 ((⟨r, 0, none⟩ : Addr).add 0) (.agg #[.bool b8, .slice b9 ba bb]) b3 /\ ∃ bc bd be, Loads P 31 ((⟨r, 0, none⟩ : Addr).add 2) (.slice bc bd be) b3 /\ Calls P 165 ⟨[.agg #[.bool b8, .slice b9 ba bb], .slice bc bd be, .int .i64 m]⟩ b3 fun bf bg =>
 ∃ bh bi bj bk, bf = .returned (.agg #[.bool bh, .slice bi bj bk]) /\
 ∃ wv_9, Stores P 33 ⟨a6, 0, none⟩ (.agg #[.bool bh, .slice bi bj bk]) bg wv_9 /\
 ∃ r0_4 bl bm bn, Loads P 33 ⟨a6, 0, none⟩ (.agg #[.bool r0_4, .slice bl bm bn]) wv_9 /\ R (.tuple #[.agg #[.bool r0_4, .slice bl bm bn], .bool true]) wv_9))
theorem impl_RatRound_ret {r0 : Bool} {a : Option Addr} {a0 a1 : Nat} {a2 : Option Addr} {a3 a4 : Nat} {m : Int} (h : impl_RatRound r0 a a0 a1 a2 a3 a4 m w R) : Ret P 137 [.agg #[.bool r0, .slice a a0 a1, .slice a2 a3 a4], .int .i64 m] w R := Ret.of_fsem Tryz.func137 rfl (Eq.mp (show _ = fsem P Tryz.f137 (fun k => []) _ R w from by kernel_rfl) h)
def spec_l02Trim (a0 : Option Addr) (a1 a2 : Nat) (w : World) (R : Value -> World -> Prop) : Prop :=
 ∃ (a3 : Int -> World -> Prop) (mu : Int -> World -> Nat), a3 ((a1 : Nat) : Int) w /\
 ∀ (a4 : Fr) (wv : World) (n : Int), a3 n wv ->
 ((decide ((0 : Int) < n)) = true ->
 ∃ a5 : Int, a5 = IntKind.wrap .i64 (n - 1) /\ (0 <= (a5 : Int) /\ (a5 : Int) < (a1 : Nat)) /\ ptrS a0 fun ad => ∃ a6, Loads P 3 (ad.add (a5.toNat * 1)) (.int .i64 a6) wv /\ ((decide ((a6 : Int) = 0)) = true ->
 ∃ a7 : Int, a7 = IntKind.wrap .i64 (n - 1) /\ a3 a7 wv /\ mu a7 wv < mu n wv) /\
 ((decide ((a6 : Int) = 0)) = false ->
 (0 <= (n : Int) /\ (n : Int) <= (a2 : Nat)) /\ R (.slice (sub a0 0 a2 1) (n.toNat - 0) (a2 - 0)) wv)) /\
 ((decide ((0 : Int) < n)) = false ->
 (false = true ->
 ∃ a8 : Int, a8 = IntKind.wrap .i64 (n - 1) /\ a3 a8 wv /\ mu a8 wv < mu n wv) /\
 (false = false ->
 (0 <= (n : Int) /\ (n : Int) <= (a2 : Nat)) /\ R (.slice (sub a0 0 a2 1) (n.toNat - 0) (a2 - 0)) wv))
theorem spec_l02Trim_ret {a : Option Addr} {a0 a1 : Nat} (h : spec_l02Trim a a0 a1 w R) : Ret P 138 [.slice a a0 a1] w R := Ret.of_fsem Tryz.func138 rfl (Eq.mp (show _ = fsem P Tryz.f138 (fun k => cond (Nat.beq k 3) [(3, .one (.int .i64))] ([])) _ R w from by kernel_rfl) h)
def spec_l04Make (neg : Bool) (a0 : Option Addr) (a1 a2 : Nat) (w : World) (R : Value -> World -> Prop) : Prop :=
 ∀ r wv, New w (.cells ⟨[.bool false, .slice none 0 0]⟩ 33 (0, 0)) r wv ->
 Calls P 170 ⟨[.slice a0 a1 a2]⟩ wv fun e a3 =>
 ∃ a4 a5 a6, e = .returned (.slice a4 a5 a6) /\
 (neg = true ->
 ∀ a7 a8, New a3 (.cells ⟨[]⟩ 3 (0, 0)) a7 a8 ->
 ∃ a9 aa ab ac, Appends P [31, 31] [(.slice (some ⟨a7, 0, none⟩) 0 0), .slice a4 a5 a6] (.slice a9 aa ab) a8 ac /\
 ∃ wv_4, Stores P 33 ⟨r, 0, none⟩ (.agg #[(.bool (decide ((0 : Int) < ((a5 : Nat) : Int)))), .slice a9 aa ab]) ac wv_4 /\
 ∃ r0 ae af ag, Loads P 33 ⟨r, 0, none⟩ (.agg #[.bool r0, .slice ae af ag]) wv_4 /\ R (.agg #[.bool r0, .slice ae af ag]) wv_4) /\
 (neg = false ->
 ∀ ah ai, New a3 (.cells ⟨[]⟩ 3 (0, 0)) ah ai ->
 ∃ aj ak al am, Appends P [31, 31] [(.slice (some ⟨ah, 0, none⟩) 0 0), .slice a4 a5 a6] (.slice aj ak al) ai am /\
 ∃ wv_7, Stores P 33 ⟨r, 0, none⟩ (.agg #[.bool false, .slice aj ak al]) am wv_7 /\
 ∃ r0_1 an ao ap, Loads P 33 ⟨r, 0, none⟩ (.agg #[.bool r0_1, .slice an ao ap]) wv_7 /\ R (.agg #[.bool r0_1, .slice an ao ap]) wv_7)
theorem spec_l04Make_ret {a : Bool} {a0 : Option Addr} {a1 a2 : Nat} (h : spec_l04Make a a0 a1 a2 w R) : Ret P 144 [.bool a, .slice a0 a1 a2] w R := Ret.of_fsem Tryz.func144 rfl (Eq.mp (show _ = fsem P Tryz.f144 (fun k => []) _ R w from by kernel_rfl) h)
end Go.Proofs.YtgbknjdjbahdkaaGreatDoor
namespace Go.Proofs.YtgbknjdjbahdkaaGreatDoor
variable {w : World} {R : Value -> World -> Prop}
open Go Go.Proofs.YtgbknjdjbahdkaaGreatDoor.Sx
set_option maxRecDepth 100000
def spec_NatOf (n : Int) (w : World) (R : Value -> World -> Prop) : Prop :=
 ∀ r wv, New w (.cells ⟨[]⟩ 3 (0, 0)) r wv ->
 ∃ (a0 : Int -> Option Addr -> Nat -> Nat -> World -> Prop) (mu : Int -> Option Addr -> Nat -> Nat -> World -> Nat), a0 n (some ⟨r, 0, none⟩) 0 0 wv /\
 ∀ (a1 : Fr) (a2 : World) (n_1 : Int) (a3 : Option Addr) (a4 a5 : Nat), a0 n_1 a3 a4 a5 a2 ->
 ((decide ((0 : Int) < n_1)) = true ->
 (1000000000 : Int) ≠ 0 /\ ∃ t9 : Int, t9 = Int.tmod n_1 1000000000 /\ ∀ a6 a7, New a2 (.cells ⟨[.int .i64 t9]⟩ 3 (0, 0)) a6 a7 ->
 ∃ a8 a9 aa ab, Appends P [31, 31] [.slice a3 a4 a5, (.slice (some ⟨a6, 0, none⟩) 1 1)] (.slice a8 a9 aa) a7 ab /\
 (1000000000 : Int) ≠ 0 /\ ∃ ac : Int, ac = IntKind.wrap .i64 (Int.tdiv n_1 1000000000) /\ a0 ac a8 a9 aa ab /\ mu ac a8 a9 aa ab < mu n_1 a3 a4 a5 a2) /\
 ((decide ((0 : Int) < n_1)) = false ->
 R (.slice a3 a4 a5) a2)
theorem spec_NatOf_ret {n : Int} (h : spec_NatOf n w R) : Ret P 145 [.int .i64 n] w R := Ret.of_fsem Tryz.func145 rfl (Eq.mp (show _ = fsem P Tryz.f145 (fun k => cond (Nat.beq k 3) [(0, .one (.int .i64)), (3, .one .slice)] ([])) _ R w from by kernel_rfl) h)
def impl_IsDigits (s : ByteArray) (w : World) (R : Value -> World -> Prop) : Prop :=
 ∃ (a0 : Int -> World -> Prop) (mu : Int -> World -> Nat), a0 0 w /\
 ∀ (a1 : Fr) (wv : World) (i : Int), a0 i wv ->
 ((decide ((i : Int) < ((s.size : Nat) : Int))) = true ->
 0 <= (i : Int) /\ ∃ b : UInt8, s[i.toNat]? = some b /\ Calls P 179 ⟨[(.int .u8 ((b.toNat : Nat) : Int))]⟩ wv fun e a2 =>
 ∃ a3, e = .returned (.bool a3) /\
 ((!a3) = true ->
 R (.bool false) a2) /\
 ((!a3) = false ->
 ∃ t9 : Int, t9 = IntKind.wrap .i64 (i + 1) /\ a0 t9 a2 /\ mu t9 a2 < mu i wv)) /\
 ((decide ((i : Int) < ((s.size : Nat) : Int))) = false ->
 R (.bool (decide (s ≠ (S [])))) wv)
theorem impl_IsDigits_ret {s : ByteArray} (h : impl_IsDigits s w R) : Ret P 156 [.string s] w R := Ret.of_fsem Tryz.func156 rfl (Eq.mp (show _ = fsem P Tryz.f156 (fun k => cond (Nat.beq k 3) [(3, .one (.int .i64))] ([])) _ R w from by kernel_rfl) h)
def impl_scaled (scale : Int) (w : World) (R : Value -> World -> Prop) : Prop :=
 ∀ r wv, New w (.cells ⟨[.int .i64 scale]⟩ 3 (0, 0)) r wv ->
 R (.func (.func 180) #[] #[(.pointer (some ⟨r, 0, none⟩))]) wv
theorem impl_scaled_ret {a : Int} (h : impl_scaled a w R) : Ret P 157 [.int .i64 a] w R := Ret.of_fsem Tryz.func157 rfl (Eq.mp (show _ = fsem P Tryz.f157 (fun k => []) _ R w from by kernel_rfl) h)
def impl_subTimes_j0 (a0 : Option Addr) (a1 : Nat) (wv : World) (a2 : Int -> Int -> World -> Prop) (mu : Int -> Int -> World -> Nat) (borrow a3 : Int) (borrow_1 n : Int) (W : World) (R : Value -> World -> Prop) : Prop :=
 (0 <= (a3 : Int) /\ (a3 : Int) < (a1 : Nat)) /\ ptrS a0 fun a4 => ∃ wv_1, Stores P 3 (a4.add (a3.toNat * 1)) (.int .i64 n) W wv_1 /\
 ∃ a5 : Int, a5 = IntKind.wrap .i64 (a3 + 1) /\ a2 borrow_1 a5 wv_1 /\ mu borrow_1 a5 wv_1 < mu borrow a3 wv
def impl_subTimes (a0 : Option Addr) (a1 a2 : Nat) (a3 : Option Addr) (a4 a5 : Nat) (q : Int) (w : World) (R : Value -> World -> Prop) : Prop :=
 ∃ (a6 : Int -> Int -> World -> Prop) (mu : Int -> Int -> World -> Nat), a6 0 0 w /\
 ∀ (a7 : Fr) (wv : World) (borrow a8 : Int), a6 borrow a8 wv ->
 ((decide ((a8 : Int) < ((a4 : Nat) : Int))) = true ->
 (0 <= (a8 : Int) /\ (a8 : Int) < (a4 : Nat)) /\ ptrS a3 fun ad => ∃ a9, Loads P 3 (ad.add (a8.toNat * 1)) (.int .i64 a9) wv /\ (0 <= (a8 : Int) /\ (a8 : Int) < (a1 : Nat)) /\ ptrS a0 fun aa => ∃ ab, Loads P 3 (aa.add (a8.toNat * 1)) (.int .i64 ab) wv /\ ∃ ac : Int, ac = IntKind.wrap .i64 (a9 * q) /\ ∃ ae : Int, ae = IntKind.wrap .i64 (ab - ac) /\ ∃ af : Int, af = IntKind.wrap .i64 (ae - borrow) /\ ((decide ((af : Int) < 0)) = true ->
 ∃ ag : Int, ag = IntKind.wrap .i64 (0 - af) /\ ∃ ah : Int, ah = IntKind.wrap .i64 (ag + 1000000000) /\ ∃ ai : Int, ai = IntKind.wrap .i64 (ah - 1) /\ (1000000000 : Int) ≠ 0 /\ ∃ aj : Int, aj = IntKind.wrap .i64 (Int.tdiv ai 1000000000) /\ ∃ ak : Int, ak = IntKind.wrap .i64 (aj * 1000000000) /\ ∃ al : Int, al = IntKind.wrap .i64 (af + ak) /\ impl_subTimes_j0 a0 a1 wv a6 mu borrow a8 aj al wv R) /\
 ((decide ((af : Int) < 0)) = false ->
 impl_subTimes_j0 a0 a1 wv a6 mu borrow a8 0 af wv R)) /\
 ((decide ((a8 : Int) < ((a4 : Nat) : Int))) = false ->
 (0 <= (((a4 : Nat) : Int) : Int) /\ (((a4 : Nat) : Int) : Int) < (a1 : Nat)) /\ ptrS a0 fun am => ∃ an, Loads P 3 (am.add (a4 * 1)) (.int .i64 an) wv /\ ∃ ao : Int, ao = IntKind.wrap .i64 (an - borrow) /\ (0 <= (((a4 : Nat) : Int) : Int) /\ (((a4 : Nat) : Int) : Int) < (a1 : Nat)) /\ ptrS a0 fun ap => ∃ wv_2, Stores P 3 (ap.add (a4 * 1)) (.int .i64 ao) wv wv_2 /\
 (0 <= (((a4 : Nat) : Int) : Int) /\ (((a4 : Nat) : Int) : Int) < (a1 : Nat)) /\ ptrS a0 fun aq => ∃ ar, Loads P 3 (aq.add (a4 * 1)) (.int .i64 ar) wv_2 /\ R (.bool (decide ((ar : Int) < 0))) wv_2)
theorem impl_subTimes_ret {a : Option Addr} {a0 a1 : Nat} {a2 : Option Addr} {a3 a4 : Nat} {q : Int} (h : impl_subTimes a a0 a1 a2 a3 a4 q w R) : Ret P 162 [.slice a a0 a1, .slice a2 a3 a4, .int .i64 q] w R := Ret.of_fsem Tryz.func162 rfl (Eq.mp (show _ = fsem P Tryz.f162 (fun k => cond (Nat.beq k 4) [(7, .one (.int .i64)), (13, .one (.int .i64))] ([])) _ R w from by kernel_rfl) h)
def impl_addBack (a0 : Option Addr) (a1 a2 : Nat) (a3 : Option Addr) (a4 a5 : Nat) (w : World) (R : Value -> World -> Prop) : Prop :=
 ∃ (a6 : Int -> Int -> World -> Prop) (mu : Int -> Int -> World -> Nat), a6 0 0 w /\
 ∀ (a7 : Fr) (wv : World) (carry t9 : Int), a6 carry t9 wv ->
 ((decide ((t9 : Int) < ((a4 : Nat) : Int))) = true ->
 (0 <= (t9 : Int) /\ (t9 : Int) < (a4 : Nat)) /\ ptrS a3 fun ad => ∃ a8, Loads P 3 (ad.add (t9.toNat * 1)) (.int .i64 a8) wv /\ (0 <= (t9 : Int) /\ (t9 : Int) < (a1 : Nat)) /\ ptrS a0 fun a9 => ∃ aa, Loads P 3 (a9.add (t9.toNat * 1)) (.int .i64 aa) wv /\ ∃ ab : Int, ab = IntKind.wrap .i64 (aa + a8) /\ ∃ ac : Int, ac = IntKind.wrap .i64 (carry + ab) /\ (1000000000 : Int) ≠ 0 /\ ∃ ae : Int, ae = Int.tmod ac 1000000000 /\ (0 <= (t9 : Int) /\ (t9 : Int) < (a1 : Nat)) /\ ptrS a0 fun af => ∃ wv_1, Stores P 3 (af.add (t9.toNat * 1)) (.int .i64 ae) wv wv_1 /\
 (1000000000 : Int) ≠ 0 /\ ∃ ag : Int, ag = IntKind.wrap .i64 (Int.tdiv ac 1000000000) /\ ∃ ah : Int, ah = IntKind.wrap .i64 (t9 + 1) /\ a6 ag ah wv_1 /\ mu ag ah wv_1 < mu carry t9 wv) /\
 ((decide ((t9 : Int) < ((a4 : Nat) : Int))) = false ->
 (0 <= (((a4 : Nat) : Int) : Int) /\ (((a4 : Nat) : Int) : Int) < (a1 : Nat)) /\ ptrS a0 fun ai => ∃ aj, Loads P 3 (ai.add (a4 * 1)) (.int .i64 aj) wv /\ ∃ ak : Int, ak = IntKind.wrap .i64 (aj + carry) /\ (0 <= (((a4 : Nat) : Int) : Int) /\ (((a4 : Nat) : Int) : Int) < (a1 : Nat)) /\ ptrS a0 fun al => ∃ wv_2, Stores P 3 (al.add (a4 * 1)) (.int .i64 ak) wv wv_2 /\
 R (.tuple #[]) wv_2)
theorem impl_addBack_ret {a : Option Addr} {a0 a1 : Nat} {a2 : Option Addr} {a3 a4 : Nat} (h : impl_addBack a a0 a1 a2 a3 a4 w R) : Ret P 163 [.slice a a0 a1, .slice a2 a3 a4] w R := Ret.of_fsem Tryz.func163 rfl (Eq.mp (show _ = fsem P Tryz.f163 (fun k => cond (Nat.beq k 3) [(4, .one (.int .i64)), (9, .one (.int .i64))] ([])) _ R w from by kernel_rfl) h)
def impl_isMode (m : Int) (w : World) (R : Value -> World -> Prop) : Prop :=
 ((decide ((0 : Int) <= m)) = true ->
 R (.bool (decide ((m : Int) <= 6))) w) /\
 ((decide ((0 : Int) <= m)) = false ->
 R (.bool false) w)
theorem impl_isMode_ret {m : Int} (h : impl_isMode m w R) : Ret P 164 [.int .i64 m] w R := Ret.of_fsem Tryz.func164 rfl (Eq.mp (show _ = fsem P Tryz.f164 (fun k => []) _ R w from by kernel_rfl) h)
def impl_roundQuotient_j0 (r a0 : Nat) (a1 : Option Addr) (a2 a3 : Nat) (W : World) (R : Value -> World -> Prop) : Prop :=
 ∃ a4, Loads P 4 ((⟨r, 0, none⟩ : Addr).add 0) (.bool a4) W /\ Calls P 101 ⟨[.bool a4, .slice a1 a2 a3]⟩ W fun a5 a6 =>
 ∃ a7 a8 a9 aa, a5 = .returned (.agg #[.bool a7, .slice a8 a9 aa]) /\
 ∃ wv_12, Stores P 33 ⟨a0, 0, none⟩ (.agg #[.bool a7, .slice a8 a9 aa]) a6 wv_12 /\
 ∃ r0 ab ac ae, Loads P 33 ⟨a0, 0, none⟩ (.agg #[.bool r0, .slice ab ac ae]) wv_12 /\ R (.agg #[.bool r0, .slice ab ac ae]) wv_12
def impl_roundQuotient (num0 : Bool) (a0 : Option Addr) (a1 a2 : Nat) (a3 : Option Addr) (a4 a5 : Nat) (m : Int) (w : World) (R : Value -> World -> Prop) : Prop :=
 ∀ r wv, New w (.cells ⟨[.bool num0, .slice a0 a1 a2]⟩ 33 (0, 0)) r wv ->
 ∀ a6 a7, New wv (.cells ⟨[.bool false, .slice none 0 0]⟩ 33 (0, 0)) a6 a7 ->
 ∃ a8 a9 aa, Loads P 31 ((⟨r, 0, none⟩ : Addr).add 1) (.slice a8 a9 aa) a7 /\ Calls P 104 ⟨[.slice a8 a9 aa, .slice a3 a4 a5]⟩ a7 fun e ab =>
 ∃ ac ae af ag ah ai, e = .returned (.tuple #[.slice ac ae af, .slice ag ah ai]) /\
 ((decide ((0 : Int) < ((ah : Nat) : Int))) = true ->
 Calls P 186 ⟨[]⟩ ab.drew fun aj ak =>
 ∃ (al : ByteArray) (am : Value) (an : ByteArray) (ao : Value) (ap : ByteArray) (aq : Value) (ar : ByteArray) (au : Value) (av : ByteArray) (aw : Value) (ax : ByteArray) (ay : Value) (az : ByteArray) (b0 : Value), aj = .returned (.agg #[.string al, am, .string an, ao, .string ap, aq, .string ar, au, .string av, aw, .string ax, ay, .string az, b0]) /\
 Ext ab.drew ak /\ indexS P 190 (.agg #[.string al, am, .string an, ao, .string ap, aq, .string ar, au, .string av, aw, .string ax, ay, .string az, b0]) (.int .i64 m) fun (el : Value) => fieldS P 189 el 1 fun (fl : Value) => ∃ b1, (∀ wv_4, Ext ab.drew wv_4 -> Loads P 4 ((⟨r, 0, none⟩ : Addr).add 0) (.bool b1) wv_4) /\ Calls P 108 ⟨[.slice ag ah ai, .slice ag ah ai]⟩ ak fun b2 b3 =>
 ∃ b4 b5 b6, b2 = .returned (.slice b4 b5 b6) /\
 Ext ak b3 /\ Calls P 47 ⟨[.slice b4 b5 b6, .slice a3 a4 a5]⟩ b3 fun b7 b8 =>
 ∃ b9, b7 = .returned (.int .i64 b9) /\
 Ext b3 b8 /\ Calls P 187 ⟨[.slice ac ae af]⟩ b8 fun ba bb =>
 ∃ bc, ba = .returned (.bool bc) /\
 Ext b8 bb /\ CallW P fl [.bool b1, .int .i64 b9, (.bool (!bc))] bb fun bd be =>
 ∃ bf, bd = .returned (.bool bf) /\
 (bf = true ->
 ∀ bg bh, New be (.cells ⟨[.int .i64 1]⟩ 3 (0, 0)) bg bh ->
 Calls P 108 ⟨[.slice ac ae af, (.slice (some ⟨bg, 0, none⟩) 1 1)]⟩ bh fun bi bj =>
 ∃ bk bl bm, bi = .returned (.slice bk bl bm) /\
 impl_roundQuotient_j0 r a6 bk bl bm bj R) /\
 (bf = false ->
 impl_roundQuotient_j0 r a6 ac ae af be R)) /\
 ((decide ((0 : Int) < ((ah : Nat) : Int))) = false ->
 (false = true ->
 ∀ bn bo, New ab.drew (.cells ⟨[.int .i64 1]⟩ 3 (0, 0)) bn bo ->
 Calls P 108 ⟨[.slice ac ae af, (.slice (some ⟨bn, 0, none⟩) 1 1)]⟩ bo fun bp bq =>
 ∃ br bs bt, bp = .returned (.slice br bs bt) /\
 impl_roundQuotient_j0 r a6 br bs bt bq R) /\
 (false = false ->
 impl_roundQuotient_j0 r a6 ac ae af ab.drew R))
theorem impl_roundQuotient_ret {a : Bool} {a0 : Option Addr} {a1 a2 : Nat} {a3 : Option Addr} {a4 a5 : Nat} {m : Int} (h : impl_roundQuotient a a0 a1 a2 a3 a4 a5 m w R) : Ret P 165 [.agg #[.bool a, .slice a0 a1 a2], .slice a3 a4 a5, .int .i64 m] w R := Ret.of_fsem Tryz.func165 rfl (Eq.mp (show _ = fsem P Tryz.f165 (fun k => []) _ R w from by kernel_rfl) h)
def spec_l02Cap (a0 : Option Addr) (a1 a2 : Nat) (w : World) (R : Value -> World -> Prop) : Prop :=
 Calls P 138 ⟨[.slice a0 a1 a2]⟩ w fun e wv =>
 ∃ a3 a4 a5, e = .returned (.slice a3 a4 a5) /\
 ((decide ((50 : Int) < ((a4 : Nat) : Int))) = true ->
 R (.slice none 0 0) wv) /\
 ((decide ((50 : Int) < ((a4 : Nat) : Int))) = false ->
 R (.slice a3 a4 a5) wv)
theorem spec_l02Cap_ret {a : Option Addr} {a0 a1 : Nat} (h : spec_l02Cap a a0 a1 w R) : Ret P 170 [.slice a a0 a1] w R := Ret.of_fsem Tryz.func170 rfl (Eq.mp (show _ = fsem P Tryz.f170 (fun k => []) _ R w from by kernel_rfl) h)
def impl_isDigit (c : Int) (w : World) (R : Value -> World -> Prop) : Prop :=
 ((decide ((48 : Int) <= c)) = true ->
 R (.bool (decide ((c : Int) <= 57))) w) /\
 ((decide ((48 : Int) <= c)) = false ->
 R (.bool false) w)
theorem impl_isDigit_ret {c : Int} (h : impl_isDigit c w R) : Ret P 179 [.int .u8 c] w R := Ret.of_fsem Tryz.func179 rfl (Eq.mp (show _ = fsem P Tryz.f179 (fun k => []) _ R w from by kernel_rfl) h)
def impl_scaled_1 (d0 : Bool) (a0 : Option Addr) (a1 a2 : Nat) (d2 : Int) (cap0 : Option Addr) (w : World) (R : Value -> World -> Prop) : Prop :=
 ∀ r wv, New w (.cells ⟨[.bool d0, .slice a0 a1 a2, .int .i64 d2]⟩ 46 (0, 0)) r wv ->
 ∀ a3 a4, New wv (.cells ⟨[.bool false, .slice none 0 0]⟩ 33 (0, 0)) a3 a4 ->
 ∃ t6, (∀ wv_2, Ext a4.drew wv_2 -> Loads P 4 (((⟨r, 0, none⟩ : Addr).add 0).add 0) (.bool t6) wv_2) /\ ∃ a5 a6 a7, (∀ wv_3, Ext a4.drew wv_3 -> Loads P 31 (((⟨r, 0, none⟩ : Addr).add 0).add 1) (.slice a5 a6 a7) wv_3) /\ ptrS cap0 fun ad => ∃ a8, (∀ wv_4, Ext a4.drew wv_4 -> Loads P 3 ad (.int .i64 a8) wv_4) /\ ∃ a9, (∀ wv_5, Ext a4.drew wv_5 -> Loads P 3 ((⟨r, 0, none⟩ : Addr).add 2) (.int .i64 a9) wv_5) /\ ∃ aa : Int, aa = IntKind.wrap .i64 (a8 - a9) /\ Calls P 61 ⟨[.int .i64 aa]⟩ a4.drew fun e ab =>
 ∃ ac ae af, e = .returned (.slice ac ae af) /\
 Ext a4.drew ab /\ Calls P 72 ⟨[.slice a5 a6 a7, .slice ac ae af]⟩ ab fun ag ah =>
 ∃ ai aj ak, ag = .returned (.slice ai aj ak) /\
 Ext ab ah /\ Calls P 101 ⟨[.bool t6, .slice ai aj ak]⟩ ah fun al am =>
 ∃ an ao ap aq, al = .returned (.agg #[.bool an, .slice ao ap aq]) /\
 ∃ wv_9, Stores P 33 ⟨a3, 0, none⟩ (.agg #[.bool an, .slice ao ap aq]) am wv_9 /\
 ∃ r0 ar au av, Loads P 33 ⟨a3, 0, none⟩ (.agg #[.bool r0, .slice ar au av]) wv_9 /\ R (.agg #[.bool r0, .slice ar au av]) wv_9
theorem impl_scaled_1_ret {d0 : Bool} {a : Option Addr} {a0 a1 : Nat} {d2 : Int} {a2 : Option Addr} (h : impl_scaled_1 d0 a a0 a1 d2 a2 w R) : Ret P 180 [.agg #[.bool d0, .slice a a0 a1, .int .i64 d2], .pointer a2] w R := Ret.of_fsem Tryz.func180 rfl (Eq.mp (show _ = fsem P Tryz.f180 (fun k => []) _ R w from by kernel_rfl) h)
def impl_roundModes (w : World) (R : Value -> World -> Prop) : Prop :=
 ∀ r wv, New w (.cells ⟨[.string ByteArray.empty, .nilFunc, .string ByteArray.empty, .nilFunc, .string ByteArray.empty, .nilFunc, .string ByteArray.empty, .nilFunc, .string ByteArray.empty, .nilFunc, .string ByteArray.empty, .nilFunc, .string ByteArray.empty, .nilFunc]⟩ 190 (0, 0)) r wv ->
 ∃ wv_1, Stores P 190 ⟨r, 0, none⟩ (.agg #[(.string (S [100, 111, 119, 110])), (.func (.func 199) #[] #[]), (.string (S [117, 112])), (.func (.func 200) #[] #[]), (.string (S [102, 108, 111, 111, 114])), (.func (.func 201) #[] #[]), (.string (S [99, 101, 105, 108])), (.func (.func 202) #[] #[]), (.string (S [104, 97, 108, 102, 100, 111, 119, 110])), (.func (.func 203) #[] #[]), (.string (S [104, 97, 108, 102, 117, 112])), (.func (.func 204) #[] #[]), (.string (S [104, 97, 108, 102, 101, 118, 101, 110])), (.func (.func 205) #[] #[])]) wv wv_1 /\
 ∃ (r0 : ByteArray) (r1 : Value) (r2 : ByteArray) (r3 : Value) (r4 : ByteArray) (r5 : Value) (r6 : ByteArray) (r7 : Value) (r8 : ByteArray) (r9 : Value) (r10 : ByteArray) (r11 : Value) (r12 : ByteArray) (r13 : Value), Loads P 190 ⟨r, 0, none⟩ (.agg #[.string r0, r1, .string r2, r3, .string r4, r5, .string r6, r7, .string r8, r9, .string r10, r11, .string r12, r13]) wv_1 /\ R (.agg #[.string r0, r1, .string r2, r3, .string r4, r5, .string r6, r7, .string r8, r9, .string r10, r11, .string r12, r13]) wv_1
theorem impl_roundModes_eq (w : World) (R : Value -> World -> Prop) : impl_roundModes w R = fsem P Tryz.f186 (fun k => []) [] R w := by kernel_rfl
set_option maxHeartbeats 4000000 in
theorem impl_roundModes_ret {w : World} {R : Value -> World -> Prop} (h : impl_roundModes w R) : Ret P 186 [] w R := by
  have h2 := impl_roundModes_eq w R
  have h3 : fsem P Tryz.f186 (fun k => []) [] R w := by rw [<- h2]; exact h
  exact Ret.of_fsem (fn := Tryz.f186) (car := (fun k => [])) (args := []) (w := w) (R := R) Tryz.func186 rfl h3
def impl_NatEven (a0 : Option Addr) (a1 a2 : Nat) (w : World) (R : Value -> World -> Prop) : Prop :=
 Calls P 91 ⟨[.slice a0 a1 a2]⟩ w fun e wv =>
 ∃ t4, e = .returned (.bool t4) /\
 (t4 = true ->
 ((decide ((((a1 : Nat) : Int) : Int) = 0)) = true ->
 R (.bool true) wv) /\
 ((decide ((((a1 : Nat) : Int) : Int) = 0)) = false ->
 (0 <= (0 : Int) /\ (0 : Int) < (a1 : Nat)) /\ ptrS a0 fun ad => ∃ a3, Loads P 3 (ad.add (0 * 1)) (.int .i64 a3) wv /\ (2 : Int) ≠ 0 /\ ∃ a4 : Int, a4 = Int.tmod a3 2 /\ R (.bool (decide ((a4 : Int) = 0))) wv)) /\
 (t4 = false ->
 R (.bool false) wv)
theorem impl_NatEven_ret {a : Option Addr} {a0 a1 : Nat} (h : impl_NatEven a a0 a1 w R) : Ret P 187 [.slice a a0 a1] w R := Ret.of_fsem Tryz.func187 rfl (Eq.mp (show _ = fsem P Tryz.f187 (fun k => []) _ R w from by kernel_rfl) h)
def impl_roundModes_1 (a0 : Bool) (a1 : Int) (a2 : Bool) (w : World) (R : Value -> World -> Prop) : Prop :=
 R (.bool false) w
theorem impl_roundModes_1_ret {a0 : Bool} {a1 : Int} {a2 : Bool} (h : impl_roundModes_1 a0 a1 a2 w R) : Ret P 199 [.bool a0, .int .i64 a1, .bool a2] w R := Ret.of_fsem Tryz.func199 rfl (Eq.mp (show _ = fsem P Tryz.f199 (fun k => []) _ R w from by kernel_rfl) h)
def impl_roundModes_2 (a0 : Bool) (a1 : Int) (a2 : Bool) (w : World) (R : Value -> World -> Prop) : Prop :=
 R (.bool true) w
theorem impl_roundModes_2_ret {a0 : Bool} {a1 : Int} {a2 : Bool} (h : impl_roundModes_2 a0 a1 a2 w R) : Ret P 200 [.bool a0, .int .i64 a1, .bool a2] w R := Ret.of_fsem Tryz.func200 rfl (Eq.mp (show _ = fsem P Tryz.f200 (fun k => []) _ R w from by kernel_rfl) h)
def impl_roundModes_3 (neg : Bool) (u : Int) (u_1 : Bool) (w : World) (R : Value -> World -> Prop) : Prop :=
 R (.bool neg) w
theorem impl_roundModes_3_ret {a : Bool} {u : Int} {a0 : Bool} (h : impl_roundModes_3 a u a0 w R) : Ret P 201 [.bool a, .int .i64 u, .bool a0] w R := Ret.of_fsem Tryz.func201 rfl (Eq.mp (show _ = fsem P Tryz.f201 (fun k => []) _ R w from by kernel_rfl) h)
def impl_roundModes_4 (neg : Bool) (u : Int) (u_1 : Bool) (w : World) (R : Value -> World -> Prop) : Prop :=
 R (.bool (!neg)) w
theorem impl_roundModes_4_ret {a : Bool} {u : Int} {a0 : Bool} (h : impl_roundModes_4 a u a0 w R) : Ret P 202 [.bool a, .int .i64 u, .bool a0] w R := Ret.of_fsem Tryz.func202 rfl (Eq.mp (show _ = fsem P Tryz.f202 (fun k => []) _ R w from by kernel_rfl) h)
def impl_roundModes_5 (u : Bool) (half : Int) (u_1 : Bool) (w : World) (R : Value -> World -> Prop) : Prop :=
 R (.bool (decide ((0 : Int) < half))) w
theorem impl_roundModes_5_ret {u : Bool} {a : Int} {a0 : Bool} (h : impl_roundModes_5 u a a0 w R) : Ret P 203 [.bool u, .int .i64 a, .bool a0] w R := Ret.of_fsem Tryz.func203 rfl (Eq.mp (show _ = fsem P Tryz.f203 (fun k => []) _ R w from by kernel_rfl) h)
def impl_roundModes_6 (u : Bool) (half : Int) (u_1 : Bool) (w : World) (R : Value -> World -> Prop) : Prop :=
 R (.bool (decide ((0 : Int) <= half))) w
theorem impl_roundModes_6_ret {u : Bool} {a : Int} {a0 : Bool} (h : impl_roundModes_6 u a a0 w R) : Ret P 204 [.bool u, .int .i64 a, .bool a0] w R := Ret.of_fsem Tryz.func204 rfl (Eq.mp (show _ = fsem P Tryz.f204 (fun k => []) _ R w from by kernel_rfl) h)
def impl_roundModes_7 (u : Bool) (half : Int) (odd : Bool) (w : World) (R : Value -> World -> Prop) : Prop :=
 ((decide ((0 : Int) < half)) = true ->
 R (.bool true) w) /\
 ((decide ((0 : Int) < half)) = false ->
 ((decide ((half : Int) = 0)) = true ->
 R (.bool odd) w) /\
 ((decide ((half : Int) = 0)) = false ->
 R (.bool false) w))
theorem impl_roundModes_7_ret {u : Bool} {a : Int} {a0 : Bool} (h : impl_roundModes_7 u a a0 w R) : Ret P 205 [.bool u, .int .i64 a, .bool a0] w R := Ret.of_fsem Tryz.func205 rfl (Eq.mp (show _ = fsem P Tryz.f205 (fun k => []) _ R w from by kernel_rfl) h)
end Go.Proofs.YtgbknjdjbahdkaaGreatDoor
namespace Go.Proofs.YtgbknjdjbahdkaaGreatDoor.Sx
open Go Go.RowKit
theorem Ext.le {a b : World} (h : Ext a b) : a.heap.size <= b.heap.size := h.size
def Seg (w : World) (b off : Nat) (cs : List Value) : Prop := ∀ j v, cs[j]? = some v -> w.cell? ⟨b, off + j, none⟩ = some v
theorem Seg.nil {w : World} {b off : Nat} : Seg w b off [] := fun j v h => by simp at h
theorem Seg.drop {w : World} {b off : Nat} {cs : List Value} (h : Seg w b off cs) (k : Nat) : Seg w b (off + k) (cs.drop k) := fun j v hj => by
  rw [List.getElem?_drop] at hj
  have := h _ _ hj
  rwa [Nat.add_assoc]
theorem Seg.take {w : World} {b off : Nat} {cs : List Value} (h : Seg w b off cs) (k : Nat) : Seg w b off (cs.take k) := fun j v hj => by
  rw [List.getElem?_take] at hj
  split at hj
  · exact h _ _ hj
  · cases hj
theorem Seg.ext {w w' : World} {b off : Nat} {cs : List Value} (h : Seg w b off cs) (he : Ext w w') : Seg w' b off cs := fun j v hj => by
  have h1 := h j v hj
  rw [<- h1]
  exact he.cell (World.block_lt_of_cell? w _ h1)
theorem Seg.chg {S : List Nat} {w w' : World} {b off : Nat} {cs : List Value} (h : Seg w b off cs) (he : Chg S w w') (hb : b ∉ S) : Seg w' b off cs := fun j v hj => by
  have h1 := h j v hj
  rw [<- h1]
  exact World.cell?_of_block (he.block b (World.block_lt_of_cell? w _ h1) hb)
def Blk (w : World) (b : Nat) (e : TypeId) (xs : List Value) : Prop := w.heap[b]? = some (.cells ⟨xs⟩ e (0, 0))
theorem Blk.lt {w : World} {b : Nat} {e : TypeId} {xs : List Value} (h : Blk w b e xs) : b < w.heap.size := (Array.getElem?_eq_some_iff.1 h).1
theorem Blk.ext {w w' : World} {b : Nat} {e : TypeId} {xs : List Value} (h : Blk w b e xs) (he : Ext w w') : Blk w' b e xs := (he.block b h.lt).trans h
theorem Blk.chg {S : List Nat} {w w' : World} {b : Nat} {e : TypeId} {xs : List Value} (h : Blk w b e xs) (he : Chg S w w') (hb : b ∉ S) : Blk w' b e xs := (he.block b h.lt hb).trans h
theorem Blk.cell {w : World} {b : Nat} {e : TypeId} {xs : List Value} (h : Blk w b e xs) (j : Nat) : w.cell? ⟨b, j, none⟩ = xs[j]? := by
  rw [cell_of_row w b j _ e (0, 0) h]; simp
theorem Blk.seg {w : World} {b : Nat} {e : TypeId} {xs : List Value} (h : Blk w b e xs) : Seg w b 0 xs := fun j v hj => by rw [Nat.zero_add, h.cell, hj]
theorem New.ext {w w' : World} {o : Obj} {r : Nat} (h : New w o r w') : Ext w w' := by
  obtain ⟨rfl, rfl⟩ := h
  exact (Below.refl _ _).alloc (Nat.le_refl _) _
theorem New.size {w w' : World} {o : Obj} {r : Nat} (h : New w o r w') : w'.heap.size = w.heap.size + 1 := by
  obtain ⟨rfl, rfl⟩ := h; simp
theorem New.blk {w w' : World} {xs : List Value} {e : TypeId} {r : Nat} (h : New w (.cells ⟨xs⟩ e (0, 0)) r w') : Blk w' r e xs := by
  obtain ⟨rfl, rfl⟩ := h
  exact heap_alloc_new w _
theorem addr_add (b o k : Nat) : (⟨b, o, none⟩ : Addr).add k = ⟨b, o + k, none⟩ := Addr.add_lit b o k
section
variable {P : Program}
def cellT (P : Program) (t : TypeId) : Bool :=
  match P.underlying t, P.info? t with
  | some (.struct _), _ => false
  | some (.array _ _), _ => false
  | some _, some i => Nat.beq i.size 1
  | _, _ => false
def aggT (P : Program) (t : TypeId) (n : Nat) : Bool :=
  match P.underlying t, P.info? t with
  | some (.struct _), some i => Nat.beq i.size n
  | some (.array _ _), some i => Nat.beq i.size n
  | _, _ => false
theorem cellT_spec {t : TypeId} (h : cellT P t = true) : (∀ w, (isAgg t).run P w = .ok false w) /\ ∃ i, P.info? t = some i /\ i.size = 1 := by
  unfold cellT at h
  split at h <;> try cases h
  rename_i d i hs ha hu hi
  refine ⟨fun w => ?_, i, hi, Nat.eq_of_beq_eq_true h⟩
  unfold isAgg
  rw [Sem.run_bind, underlying_run hu w]
  cases d <;> first | rfl | (exact absurd rfl (hs _)) | (exact absurd rfl (ha _ _))
theorem aggT_spec {t : TypeId} {n : Nat} (h : aggT P t n = true) : (∀ w, (isAgg t).run P w = .ok true w) /\ ∃ i, P.info? t = some i /\ i.size = n := by
  unfold aggT at h
  split at h
  · rename_i fs i hu hi
    exact ⟨fun w => by unfold isAgg; rw [Sem.run_bind, underlying_run hu w]; rfl, i, hi, Nat.eq_of_beq_eq_true h⟩
  · rename_i k e i hu hi
    exact ⟨fun w => by unfold isAgg; rw [Sem.run_bind, underlying_run hu w]; rfl, i, hi, Nat.eq_of_beq_eq_true h⟩
  · cases h
theorem loads1 {w : World} {t : TypeId} {b o : Nat} {v : Value} (ht : cellT P t = true) (h : w.cell? ⟨b, o, none⟩ = some v) : Loads P t ⟨b, o, none⟩ v w := by
  unfold Loads loadVar
  rw [Sem.run_bind, (cellT_spec ht).1]
  simp [h]
theorem loadsA {w : World} {t : TypeId} {b o : Nat} {cs : List Value} (ht : aggT P t cs.length = true) (h : Seg w b o cs) : Loads P t ⟨b, o, none⟩ (.agg ⟨cs⟩) w := by
  obtain ⟨h1, i, hi, hn⟩ := aggT_spec ht
  unfold Loads loadVar
  rw [Sem.run_bind, h1]
  simp only [Result.andThen_ok, if_true, Sem.run_bind, sizeOf_run hi, hn]
  rw [run_loadCells_list (P := P) w ⟨b, o, none⟩ cs fun j v hv => by rw [addr_add]; exact h j v hv]
  rfl
theorem Seg.load {w : World} {t : TypeId} {b o k : Nat} {cs : List Value} {v : Value} (h : Seg w b o cs) (ht : cellT P t = true) (hx : cs[k]? = some v) : Loads P t ((⟨b, o, none⟩ : Addr).add k) v w := by
  rw [addr_add]; exact loads1 ht (h _ _ hx)
theorem Seg.loadA {w : World} {t : TypeId} {b o k : Nat} {cs xs : List Value} (h : Seg w b o cs) (ht : aggT P t xs.length = true) (hx : (cs.drop k).take xs.length = xs) : Loads P t ((⟨b, o, none⟩ : Addr).add k) (.agg ⟨xs⟩) w := by
  rw [addr_add]
  refine loadsA ht ?_
  have := (h.drop k).take xs.length
  rwa [hx] at this
theorem Blk.load {w : World} {t : TypeId} {b k : Nat} {e : TypeId} {cs : List Value} {v : Value} (h : Blk w b e cs) (ht : cellT P t = true) (hx : cs[k]? = some v) : Loads P t ((⟨b, 0, none⟩ : Addr).add k) v w :=
  h.seg.load ht hx
theorem Blk.loadA {w : World} {t : TypeId} {b k : Nat} {e : TypeId} {cs xs : List Value} (h : Blk w b e cs) (ht : aggT P t xs.length = true) (hx : (cs.drop k).take xs.length = xs) : Loads P t ((⟨b, 0, none⟩ : Addr).add k) (.agg ⟨xs⟩) w :=
  h.seg.loadA ht hx
theorem setRow_chg (w : World) (b : Nat) (cs : Array Value) : Chg [b] w (w.setRow b cs) :=
  ⟨rfl, rfl, rfl, by simp, fun k _ hk => setRow_other w b k _ (by simpa using hk)⟩
theorem Blk.store {w : World} {t : TypeId} {b k : Nat} {e : TypeId} {cs : List Value} {v : Value} (h : Blk w b e cs) (ht : cellT P t = true) (hk : k < cs.length) (hv : v.oneCell' = true) :
    ∃ w', Stores P t ((⟨b, 0, none⟩ : Addr).add k) v w w' /\ Blk w' b e (cs.set k v) /\ Chg [b] w w' /\ w'.heap.size = w.heap.size := by
  obtain ⟨_, i, hi, hn⟩ := cellT_spec ht
  have hc : v.cells = #[v] := by cases v <;> first | rfl | (simp [Value.oneCell'] at hv)
  have hst := run_storeCells_at P b k e [v] 0 ⟨cs⟩ w h (by simp only [List.length_cons, List.length_nil]; show k + 0 + 1 <= cs.length; omega) (by simpa using hv)
  refine ⟨_, ?_, setRow_heap w b ⟨cs⟩ _ e _ h, setRow_chg _ _ _, by simp⟩
  · unfold Stores storeVar
    rw [addr_add, Nat.zero_add]
    simp only [Sem.run_bind, sizeOf_run hi, Result.andThen_ok, hc, hn, List.size_toArray, List.length_cons, List.length_nil]
    simp only [Nat.zero_add, ne_eq, not_true, if_false, Sem.run_pure, Result.andThen_ok]
    rw [hst]
    congr 3
    simp only [Nat.add_zero, List.length_cons, List.length_nil, Nat.zero_add]
    rw [List.set_eq_take_append_cons_drop]
    simp [hk]
theorem Blk.storeA {w : World} {t : TypeId} {b k : Nat} {e : TypeId} {cs xs : List Value} (h : Blk w b e cs) (ht : aggT P t xs.length = true) (hk : k + xs.length <= cs.length) (hv : ∀ v ∈ xs, v.oneCell' = true) :
    ∃ w', Stores P t ((⟨b, 0, none⟩ : Addr).add k) (.agg ⟨xs⟩) w w' /\ Blk w' b e (cs.take k ++ xs ++ cs.drop (k + xs.length)) /\ Chg [b] w w' /\ w'.heap.size = w.heap.size := by
  obtain ⟨_, i, hi, hn⟩ := aggT_spec ht
  have hst := run_storeCells_at P b k e xs 0 ⟨cs⟩ w h (by simpa using hk) hv
  refine ⟨_, ?_, setRow_heap w b ⟨cs⟩ _ e _ h, setRow_chg _ _ _, by simp⟩
  unfold Stores storeVar
  rw [addr_add, Nat.zero_add]
  simp only [Sem.run_bind, sizeOf_run hi, Result.andThen_ok, Value.cells, hn, List.size_toArray]
  simp only [ne_eq, not_true, if_false, Sem.run_pure, Result.andThen_ok]
  rw [hst]
  simp
def sliceT (P : Program) (t e : TypeId) (z : Value) (size bytes : Nat) : Prop :=
 P.underlying t = some (.slice e) /\ (P.info? e).map (fun i => (i.zero, i.size, i.bytes)) = some (some z, size, bytes) /\ z.cells.size = size /\ 0 < size
def Own (w : World) (base : Nat) (e : TypeId) (size : Nat) (p : Option Addr) (n c : Nat) (xs : List Value) : Prop := w.ownsRow base e size (.slice p n c) n xs
theorem Own.nil (w : World) (base : Nat) (e : TypeId) (size : Nat) : Own w base e size none 0 0 [] := World.ownsRow_nil w base e size
theorem Own.ext {w w' : World} {base : Nat} {e : TypeId} {size : Nat} {p : Option Addr} {n c : Nat} {xs : List Value} (h : Own w base e size p n c xs) (he : Ext w w') : Own w' base e size p n c xs :=
  h.kept (row := none) ⟨he.os, he.tape, he.output, he.size, fun k hk _ => he.block k hk⟩ (by cases p <;> simp [Value.ownBlock])
theorem Own.of_blk {w : World} {base : Nat} {e : TypeId} {size : Nat} {r n : Nat} {xs : List Value} (h : Blk w r e xs) (hb : base <= r) (hl : xs.length = n * size) (hn : n <= maxLen) : Own w base e size (some ⟨r, 0, none⟩) n n xs :=
  ⟨hl, .inr ⟨r, n, ⟨xs⟩, rfl, hb, h, Nat.le_refl _, hn, by simpa using hl, by simp [<- hl]⟩⟩
theorem Own.of_blk0 {w : World} {base : Nat} {e : TypeId} {size : Nat} {r n : Nat} {xs : List Value} (h : Blk w r e xs) (hb : base <= r) (hl : xs.length = n * size) (hn : n <= maxLen) : Own w base e size (some ⟨r, 0, none⟩) 0 n [] :=
  ⟨by simp, .inr ⟨r, n, ⟨xs⟩, rfl, hb, h, Nat.zero_le _, hn, by simpa using hl, by simp⟩⟩
theorem Own.len {w : World} {base : Nat} {e : TypeId} {size : Nat} {p : Option Addr} {n c : Nat} {xs : List Value} (h : Own w base e size p n c xs) : xs.length = n * size := h.1
theorem Own.le {w : World} {base : Nat} {e : TypeId} {size : Nat} {p : Option Addr} {n c : Nat} {xs : List Value} (h : Own w base e size p n c xs) : n <= c := by
  rcases h.2 with ⟨h1, h2⟩ | ⟨g, cap, cur, h1, _, _, h3, _⟩
  · omega
  · simp only [Value.slice.injEq] at h1; omega
theorem Own.capLe {w : World} {base : Nat} {e : TypeId} {size : Nat} {p : Option Addr} {n c : Nat} {xs : List Value} (h : Own w base e size p n c xs) : c <= 9223372036854775807 := by
  rcases h.2 with ⟨h1, h2⟩ | ⟨g, cap, cur, h1, _, _, h3, h4, _⟩
  · simp only [Value.slice.injEq] at h1; omega
  · simp only [Value.slice.injEq] at h1; simp only [maxLen] at h4; omega
theorem Own.seg {w : World} {base : Nat} {e : TypeId} {size : Nat} {p : Option Addr} {n c : Nat} {xs : List Value} (h : Own w base e size p n c xs) (hn : 0 < n) : ∃ b, p = some ⟨b, 0, none⟩ /\ base <= b /\ Seg w b 0 xs := by
  rcases h.2 with ⟨h1, h2⟩ | ⟨g, cap, cur, h1, hb, hg, h3, h4, h5, h6⟩
  · omega
  · simp only [Value.slice.injEq] at h1
    refine ⟨g, h1.1, hb, fun j v hj => ?_⟩
    rw [Nat.zero_add, cell_of_row w g j cur e (0, 0) hg]
    rw [<- h6, List.getElem?_take] at hj
    split at hj
    · simpa using hj
    · cases hj
theorem Own.mono {w : World} {base base' : Nat} {e : TypeId} {size : Nat} {p : Option Addr} {n c : Nat} {xs : List Value} (h : Own w base e size p n c xs) (hb : base' <= base) : Own w base' e size p n c xs := by
  refine ⟨h.1, ?_⟩
  rcases h.2 with h1 | ⟨g, cap, cur, h1, h2, h3⟩
  · exact .inl h1
  · exact .inr ⟨g, cap, cur, h1, Nat.le_trans hb h2, h3⟩
theorem Own.append {w : World} {base : Nat} {t e : TypeId} {z : Value} {size bytes : Nat} {p : Option Addr} {n c r m mc : Nat} {xs news : List Value} (h : Own w base e size p n c xs)
    (hT : sliceT P t e z size bytes) (hb : base <= w.heap.size) (hr : Blk w r e news) (hl : news.length = m * size) (h1 : ∀ u ∈ news, u.oneCell' = true)
    (hbytes : (n + m) * bytes <= 140737488355328) (hby : 1 <= bytes) :
    ∃ p' c' w', Appends P [t, t] [.slice p n c, .slice (some ⟨r, 0, none⟩) m mc] (.slice p' (n + m) c') w w' /\ Own w' base e size p' (n + m) c' (xs ++ news) /\
      (∀ w0, Ext w0 w -> w0.heap.size <= base -> Ext w0 w') /\ (∀ b e' ys, Blk w b e' ys -> p.map (·.block) ≠ some b -> Blk w' b e' ys) /\
      (∀ b o ys, Seg w b o ys -> p.map (·.block) ≠ some b -> Seg w' b o ys) := by
  obtain ⟨hu, hi, hz, hs⟩ := hT
  cases hinf : P.info? e with
  | none => rw [hinf] at hi; cases hi
  | some i =>
    rw [hinf] at hi
    simp only [Option.map_some, Option.some.injEq, Prod.mk.injEq] at hi
    have hnm : n + m <= maxLen := by
      have : n + m <= (n + m) * bytes := Nat.le_mul_of_pos_right _ hby
      simp only [maxLen]; omega
    obtain ⟨v', w', hrun, hown, hgr, _⟩ := run_append_own (P := P) w base t 0 e i z size bytes hu hinf hi.1 hi.2.1 hi.2.2 hz hs (.slice p n c) n xs h ⟨r, 0, none⟩ m mc news hl
      (fun j u hj => by rw [addr_add, Nat.zero_add, hr.cell, hj]) h1 hnm hbytes hb
    have hlt := h.lt
    have hv : ∃ p' c', v' = .slice p' (n + m) c' := by
      rcases hown.2 with ⟨e1, e2⟩ | ⟨g, cap, cur, e1, _⟩
      · exact ⟨none, 0, by rw [e1, e2]⟩
      · exact ⟨_, _, e1⟩
    obtain ⟨p', c', rfl⟩ := hv
    have hob : (Value.slice p n c).ownBlock = p.map (·.block) := by cases p <;> rfl
    refine ⟨p', c', w', hrun, hown, ?_, ?_, ?_⟩
    · intro w0 hx hb0
      refine hx.chg (S := (p.map (·.block)).toList) ⟨hgr.os, hgr.tape, hgr.output, hgr.size, fun k hk hn => hgr.block k hk ?_⟩ ?_
      · rw [hob]; intro e; rw [<- e] at hn; simp at hn
      · intro x hx'
        have := (hlt x (by rw [hob]; cases p <;> simp_all)).1
        omega
    · intro b e' ys hy hne
      exact (hgr.block b hy.lt (by rw [hob]; exact fun e => hne e.symm)).trans hy
    · intro b o ys hy hne j v hj
      have h3 := hy j v hj
      rw [<- h3]
      exact World.cell?_of_block (hgr.block b (World.block_lt_of_cell? w _ h3) (by rw [hob]; exact fun e => hne e.symm))
end
def IntsR (w : World) (p : Option Addr) (n c : Nat) (zs : List Int) : Prop :=
 zs.length = n /\ n <= c /\ c <= 9223372036854775807 /\ (0 < n -> ∃ b off, p = some ⟨b, off, none⟩ /\ Seg w b off (zs.map (Value.int .i64)))
theorem IntsR.ext {w w' : World} {p : Option Addr} {n c : Nat} {zs : List Int} (h : IntsR w p n c zs) (he : Ext w w') : IntsR w' p n c zs :=
  ⟨h.1, h.2.1, h.2.2.1, fun hn => let ⟨b, off, hp, hs⟩ := h.2.2.2 hn; ⟨b, off, hp, hs.ext he⟩⟩
theorem IntsR.chg {S : List Nat} {w w' : World} {p : Option Addr} {n c : Nat} {zs : List Int} (h : IntsR w p n c zs) (he : Chg S w w') (hS : ∀ b, p.map (·.block) = some b -> b ∉ S) : IntsR w' p n c zs :=
  ⟨h.1, h.2.1, h.2.2.1, fun hn => let ⟨b, off, hp, hs⟩ := h.2.2.2 hn; ⟨b, off, hp, hs.chg he (hS b (by rw [hp]; rfl))⟩⟩
theorem IntsR.nil (w : World) (p : Option Addr) {c : Nat} (hc : c <= 9223372036854775807) : IntsR w p 0 c [] := ⟨rfl, Nat.zero_le _, hc, fun h => absurd h (by omega)⟩
theorem Own.ints {w : World} {base : Nat} {e : TypeId} {p : Option Addr} {n c : Nat} {zs : List Int} (h : Own w base e 1 p n c (zs.map (Value.int .i64))) : IntsR w p n c zs :=
  ⟨by simpa using h.len, h.le, h.capLe, fun hn => let ⟨b, hp, _, hs⟩ := h.seg hn; ⟨b, 0, hp, hs⟩⟩
theorem IntsR.at {P : Program} {w : World} {p : Option Addr} {n c k : Nat} {zs : List Int} (h : IntsR w p n c zs) {t : TypeId} (ht : cellT P t = true) (hk : k < n) :
    ∃ a, p = some a /\ Loads P t (a.add (k * 1)) (.int .i64 (zs[k]'(by rw [h.1]; exact hk))) w := by
  obtain ⟨b, off, hp, hs⟩ := h.2.2.2 (by omega)
  refine ⟨_, hp, ?_⟩
  rw [Nat.mul_one]
  exact hs.load ht (by simp [List.getElem?_eq_getElem (by rw [h.1]; exact hk : k < zs.length)])
theorem wrap64 {e : Int} (h1 : -9223372036854775808 <= e) (h2 : e <= 9223372036854775807) : IntKind.wrap .i64 e = e := by
  simp only [IntKind.wrap, IntKind.bits, IntKind.signed]
  by_cases h0 : 0 <= e
  · have : e % (2 ^ 64 : Int) = e := Int.emod_eq_of_lt h0 (by omega)
    simp [this]; omega
  · have : e % (2 ^ 64 : Int) = e + 2 ^ 64 := by omega
    simp [this]; omega
theorem exW {e : Int} {Q : Int -> Prop} (h : -9223372036854775808 <= e /\ e <= 9223372036854775807) (hq : Q e) : ∃ z, z = IntKind.wrap .i64 e /\ Q z := ⟨e, (wrap64 h.1 h.2).symm, hq⟩
theorem ifD {p : Prop} [Decidable p] {A B : Prop} (ha : p -> A) (hb : ¬ p -> B) : (decide p = true -> A) /\ (decide p = false -> B) :=
  ⟨fun h => ha (of_decide_eq_true h), fun h => hb (of_decide_eq_false h)⟩
theorem ifB {b : Bool} {A B : Prop} (ha : b = true -> A) (hb : b = false -> B) : (b = true -> A) /\ (b = false -> B) := ⟨ha, hb⟩
theorem ifN {b : Bool} {A B : Prop} (ha : b = false -> A) (hb : b = true -> B) : ((!b) = true -> A) /\ ((!b) = false -> B) := ⟨fun h => ha (by simpa using h), fun h => hb (by simpa using h)⟩
theorem ifT {A B : Prop} (ha : A) : (true = true -> A) /\ (true = false -> B) := ⟨fun _ => ha, fun h => nomatch h⟩
theorem ifF {A B : Prop} (hb : B) : (false = true -> A) /\ (false = false -> B) := ⟨fun h => (nomatch h), fun _ => hb⟩
theorem zeroRow_int (k : IntKind) (z : Int) (n : Nat) : zeroRow (.int k z) n = List.replicate n (.int k z) := by
  unfold zeroRow
  apply List.ext_getElem
  · simp
  · intro i h1 h2
    simp [Value.cells, Nat.mod_one]
end Go.Proofs.YtgbknjdjbahdkaaGreatDoor.Sx
namespace Go.Proofs.YtgbknjdjbahdkaaGreatDoor
abbrev n_laws_FnFee : Nat := 4
abbrev n_impl_TextSteps : Nat := 6
abbrev n_spec_MakeSteps : Nat := 10
abbrev n_spec_MakeNum : Nat := 11
abbrev n_impl_FeeExact : Nat := 12
abbrev n_impl_IntOf : Nat := 13
abbrev n_impl_StepAt : Nat := 14
abbrev n_laws_must : Nat := 15
abbrev n_impl_RatSub : Nat := 16
abbrev n_impl_StepsText : Nat := 17
abbrev n_impl_RatCmp : Nat := 18
abbrev n_impl_DecRat : Nat := 19
abbrev n_impl_RatInt : Nat := 20
abbrev n_impl_RatSign : Nat := 21
abbrev n_impl_MoneyOf : Nat := 22
abbrev n_impl_Fee : Nat := 23
abbrev n_impl_AfterFee : Nat := 24
abbrev n_impl_MoneyAdd : Nat := 25
abbrev n_impl_MoneySame : Nat := 26
abbrev n_impl_RatAdd : Nat := 27
abbrev n_impl_MoneyRat : Nat := 28
abbrev n_impl_CutAt : Nat := 34
abbrev n_impl_TextInt : Nat := 35
abbrev n_impl_TextPercent : Nat := 36
abbrev n_impl_StepsOk : Nat := 37
abbrev n_spec_l01New : Nat := 41
abbrev n_spec_l14Draw : Nat := 42
abbrev n_spec_l01Below : Nat := 43
abbrev n_impl_IntOk : Nat := 44
abbrev n_impl_RatZero : Nat := 45
abbrev n_impl_natCmp : Nat := 47
abbrev n_impl_NatOf : Nat := 48
abbrev n_impl_natSub : Nat := 49
abbrev n_impl_RatMul : Nat := 50
abbrev n_impl_natOf : Nat := 51
abbrev n_impl_ratsOk : Nat := 52
abbrev n_impl_ratNeg : Nat := 53
abbrev n_impl_IntText : Nat := 54
abbrev n_impl_Percent : Nat := 55
abbrev n_impl_Join : Nat := 56
abbrev n_impl_intCmp : Nat := 57
abbrev n_impl_Rat_num : Nat := 58
abbrev n_impl_DecOk : Nat := 59
abbrev n_impl_reduce : Nat := 60
abbrev n_impl_natTen : Nat := 61
abbrev n_impl_RatMake : Nat := 62
abbrev n_impl_RatOk : Nat := 63
abbrev n_impl_intSign : Nat := 64
abbrev n_impl_moneyOf : Nat := 65
abbrev n_impl_MoneyOk : Nat := 66
abbrev n_impl_RatMoney : Nat := 67
abbrev n_impl_MoneySub : Nat := 68
abbrev n_impl_alike : Nat := 69
abbrev n_impl_intAdd : Nat := 70
abbrev n_impl_intSame : Nat := 71
abbrev n_impl_natMul : Nat := 72
abbrev n_impl_intCopy : Nat := 73
abbrev n_impl_TextDec : Nat := 85
abbrev n_impl_lowest : Nat := 86
abbrev n_impl_TaxRateOk : Nat := 87
abbrev n_spec_l13Rate : Nat := 89
abbrev n_spec_l01Byte : Nat := 90
abbrev n_impl_NatOk : Nat := 91
abbrev n_impl_trim : Nat := 93
abbrev n_impl_intMul : Nat := 94
abbrev n_impl_intNeg : Nat := 95
abbrev n_impl_natCopy : Nat := 96
abbrev n_impl_DecMul : Nat := 97
abbrev n_impl_DecText : Nat := 98
abbrev n_impl_DecLow : Nat := 99
abbrev n_impl_signed : Nat := 101
abbrev n_impl_isScale : Nat := 102
abbrev n_impl_natGcd : Nat := 103
abbrev n_impl_natDiv : Nat := 104
abbrev n_impl_intsOk : Nat := 105
abbrev n_impl_CurKnown : Nat := 106
abbrev n_impl_RatRest : Nat := 107
abbrev n_impl_natAdd : Nat := 108
abbrev n_impl_sameInts : Nat := 109
abbrev n_spec_IntOf : Nat := 116
abbrev n_impl_TextNat : Nat := 123
abbrev n_impl_natSmall : Nat := 124
abbrev n_impl_DecCmp : Nat := 125
abbrev n_spec_l01Pick : Nat := 127
abbrev n_impl_decOf : Nat := 128
abbrev n_impl_Pad : Nat := 129
abbrev n_impl_natText : Nat := 130
abbrev n_impl_DecAt : Nat := 131
abbrev n_impl_divStep : Nat := 135
abbrev n_impl_currencyOf : Nat := 136
abbrev n_impl_RatRound : Nat := 137
abbrev n_spec_l02Trim : Nat := 138
abbrev n_spec_l04Make : Nat := 144
abbrev n_spec_NatOf : Nat := 145
abbrev n_impl_IsDigits : Nat := 156
abbrev n_impl_subTimes : Nat := 162
abbrev n_impl_addBack : Nat := 163
abbrev n_impl_isMode : Nat := 164
abbrev n_impl_roundQuotient : Nat := 165
abbrev n_spec_l02Cap : Nat := 170
abbrev n_impl_isDigit : Nat := 179
abbrev n_impl_scaled_1 : Nat := 180
abbrev n_impl_roundModes : Nat := 186
abbrev n_impl_NatEven : Nat := 187
abbrev n_impl_roundModes_1 : Nat := 199
abbrev n_impl_roundModes_2 : Nat := 200
abbrev n_impl_roundModes_3 : Nat := 201
abbrev n_impl_roundModes_4 : Nat := 202
abbrev n_impl_roundModes_5 : Nat := 203
abbrev n_impl_roundModes_6 : Nat := 204
abbrev n_impl_roundModes_7 : Nat := 205
abbrev T_int : Nat := 3
abbrev T_bool : Nat := 4
abbrev T_uint8 : Nat := 5
abbrev T_string : Nat := 9
abbrev T_s_impl_Step : Nat := 22
abbrev T_s_int : Nat := 31
abbrev T_impl_Signed : Nat := 33
abbrev T_impl_Rat : Nat := 35
abbrev T_impl_Dec : Nat := 46
abbrev T_impl_Step : Nat := 48
abbrev T_impl_Money : Nat := 52
abbrev T_s_string : Nat := 62
abbrev T_spec_l01Cur : Nat := 75
abbrev T_impl_currency : Nat := 146
abbrev T_20_impl_currency : Nat := 166
abbrev T_impl_roundMode : Nat := 189
abbrev T_7_impl_roundMode : Nat := 190
end Go.Proofs.YtgbknjdjbahdkaaGreatDoor
namespace Go.Proofs.YtgbknjdjbahdkaaGreatDoor.Sx
open Go Go.RowKit
inductive D0 where
  | int (n : Int) | bool (b : Bool) | str (s : ByteArray) | ints (l : List Int)
  deriving DecidableEq
inductive C0 where
  | int | bool | str | ints
  deriving DecidableEq
def D0.code : D0 -> C0
  | .int _ => .int
  | .bool _ => .bool
  | .str _ => .str
  | .ints _ => .ints
def Rep0 (w : World) (v : Value) : D0 -> Prop
  | .int n => v = .int .i64 n
  | .bool b => v = .bool b
  | .str s => v = .string s
  | .ints zs => ∃ p n c, v = .slice p n c /\ IntsR w p n c zs
def Reps (w : World) : List Value -> List D0 -> Prop
  | [], [] => True
  | v :: vs, d :: ds => Rep0 w v d /\ Reps w vs ds
  | _, _ => False
theorem Rep0.ext {w w' : World} {v : Value} {d : D0} (h : Rep0 w v d) (he : Ext w w') : Rep0 w' v d := by
  cases d <;> simp only [Rep0] at h ⊢ <;> try exact h
  obtain ⟨p, n, c, hv, hi⟩ := h
  exact ⟨p, n, c, hv, hi.ext he⟩
theorem Reps.ext {w w' : World} : ∀ {vs : List Value} {ds : List D0}, Reps w vs ds -> Ext w w' -> Reps w' vs ds
  | [], [], _, _ => trivial
  | [], _ :: _, h, _ => h.elim
  | _ :: _, [], h, _ => h.elim
  | _ :: _, _ :: _, h, he => ⟨h.1.ext he, Reps.ext h.2 he⟩
theorem Reps.len {w : World} : ∀ {vs : List Value} {ds : List D0}, Reps w vs ds -> vs.length = ds.length
  | [], [], _ => rfl
  | [], _ :: _, h => h.elim
  | _ :: _, [], h => h.elim
  | _ :: _, _ :: _, h => by simp [Reps.len h.2]
theorem Reps.append {w : World} : ∀ {vs us : List Value} {ds es : List D0}, Reps w vs ds -> Reps w us es -> Reps w (vs ++ us) (ds ++ es)
  | [], _, [], _, _, k => k
  | [], _, _ :: _, _, h, _ => h.elim
  | _ :: _, _, [], _, h, _ => h.elim
  | _ :: _, _, _ :: _, _, h, k => ⟨h.1, Reps.append h.2 k⟩
theorem Reps.one {w : World} {vs : List Value} {ds : List D0} (h : Reps w vs ds) (h1 : ∀ v ∈ vs, v.oneCell' = true -> True) : True := trivial
theorem Rep0.cell1 {w : World} {v : Value} {d : D0} (h : Rep0 w v d) : v.oneCell' = true := by
  cases d <;> simp only [Rep0] at h
  case ints l => obtain ⟨p, n, c, hv, _⟩ := h; rw [hv]; rfl
  all_goals (rw [h]; rfl)
theorem Reps.cells1 {w : World} : ∀ {vs : List Value} {ds : List D0}, Reps w vs ds -> ∀ v ∈ vs, v.oneCell' = true
  | [], [], _, v, hv => by simp at hv
  | [], _ :: _, h, _, _ => h.elim
  | _ :: _, [], h, _, _ => h.elim
  | x :: xs, d :: ds, h, v, hv => by
    rcases List.mem_cons.1 hv with e | e
    · rw [e]; exact h.1.cell1
    · exact Reps.cells1 h.2 v e
theorem Reps.int {w : World} {vs : List Value} {ds : List D0} {cs : List C0} (h : Reps w vs ds) (hc : ds.map D0.code = .int :: cs) : ∃ n us es, vs = .int .i64 n :: us /\ ds = .int n :: es /\ Reps w us es /\ es.map D0.code = cs := by
  cases ds with
  | nil => simp at hc
  | cons d es =>
    cases vs with
    | nil => exact h.elim
    | cons v us =>
      simp only [List.map_cons, List.cons.injEq] at hc
      cases d <;> simp [D0.code] at hc
      rename_i n
      exact ⟨n, us, es, by rw [show v = _ from h.1], rfl, h.2, hc⟩
theorem Reps.bool {w : World} {vs : List Value} {ds : List D0} {cs : List C0} (h : Reps w vs ds) (hc : ds.map D0.code = .bool :: cs) : ∃ b us es, vs = .bool b :: us /\ ds = .bool b :: es /\ Reps w us es /\ es.map D0.code = cs := by
  cases ds with
  | nil => simp at hc
  | cons d es =>
    cases vs with
    | nil => exact h.elim
    | cons v us =>
      simp only [List.map_cons, List.cons.injEq] at hc
      cases d <;> simp [D0.code] at hc
      rename_i n
      exact ⟨n, us, es, by rw [show v = _ from h.1], rfl, h.2, hc⟩
theorem Reps.str {w : World} {vs : List Value} {ds : List D0} {cs : List C0} (h : Reps w vs ds) (hc : ds.map D0.code = .str :: cs) : ∃ s us es, vs = .string s :: us /\ ds = .str s :: es /\ Reps w us es /\ es.map D0.code = cs := by
  cases ds with
  | nil => simp at hc
  | cons d es =>
    cases vs with
    | nil => exact h.elim
    | cons v us =>
      simp only [List.map_cons, List.cons.injEq] at hc
      cases d <;> simp [D0.code] at hc
      rename_i n
      exact ⟨n, us, es, by rw [show v = _ from h.1], rfl, h.2, hc⟩
theorem Reps.ints {w : World} {vs : List Value} {ds : List D0} {cs : List C0} (h : Reps w vs ds) (hc : ds.map D0.code = .ints :: cs) :
    ∃ p n c zs us es, vs = .slice p n c :: us /\ ds = .ints zs :: es /\ IntsR w p n c zs /\ Reps w us es /\ es.map D0.code = cs := by
  cases ds with
  | nil => simp at hc
  | cons d es =>
    cases vs with
    | nil => exact h.elim
    | cons v us =>
      simp only [List.map_cons, List.cons.injEq] at hc
      cases d <;> simp [D0.code] at hc
      rename_i zs
      obtain ⟨p, n, c, hv, hi⟩ := h.1
      exact ⟨p, n, c, zs, us, es, by rw [hv], rfl, hi, h.2, hc⟩
theorem Reps.done {w : World} {vs : List Value} {ds : List D0} (h : Reps w vs ds) (hc : ds.map D0.code = []) : vs = [] /\ ds = [] := by
  have : ds = [] := by simpa using hc
  subst this
  cases vs with
  | nil => exact ⟨rfl, rfl⟩
  | cons _ _ => exact h.elim
def RowsR (w : World) (k : Nat) (p : Option Addr) (n c : Nat) (l : List (List D0)) : Prop :=
 l.length = n /\ n <= c /\ c <= 9223372036854775807 /\ (0 < n -> ∃ b off, p = some ⟨b, off, none⟩ /\ ∀ i x, l[i]? = some x -> ∃ cs, cs.length = k /\ Reps w cs x /\ Seg w b (off + i * k) cs)
theorem RowsR.ext {w w' : World} {k : Nat} {p : Option Addr} {n c : Nat} {l : List (List D0)} (h : RowsR w k p n c l) (he : Ext w w') : RowsR w' k p n c l :=
  ⟨h.1, h.2.1, h.2.2.1, fun hn => let ⟨b, off, hp, hs⟩ := h.2.2.2 hn; ⟨b, off, hp, fun i x hx => let ⟨cs, h1, h2, h3⟩ := hs i x hx; ⟨cs, h1, h2.ext he, h3.ext he⟩⟩⟩
theorem RowsR.nil (w : World) (k : Nat) (p : Option Addr) {c : Nat} (hc : c <= 9223372036854775807) : RowsR w k p 0 c [] := ⟨rfl, Nat.zero_le _, hc, fun h => absurd h (by omega)⟩
theorem RowsR.at {P : Program} {w : World} {k : Nat} {p : Option Addr} {n c i : Nat} {l : List (List D0)} (h : RowsR w k p n c l) {t : TypeId} (ht : aggT P t k = true) (hi : i < n) :
    ∃ a cs, p = some a /\ cs.length = k /\ Reps w cs (l[i]'(by rw [h.1]; exact hi)) /\ Loads P t (a.add (i * k)) (.agg ⟨cs⟩) w := by
  obtain ⟨b, off, hp, hs⟩ := h.2.2.2 (by omega)
  obtain ⟨cs, h1, h2, h3⟩ := hs i _ (List.getElem?_eq_getElem (by rw [h.1]; exact hi))
  refine ⟨_, cs, hp, h1, h2, ?_⟩
  rw [addr_add]
  exact loadsA (by rw [h1]; exact ht) h3
def D0.bulk : D0 -> Nat
  | .str s => s.size
  | .ints l => l.length
  | _ => 0
def bulks (ds : List D0) : Nat := (ds.map D0.bulk).sum
def D0.ok : D0 -> Prop
  | .int n => -9223372036854775808 <= n /\ n <= 9223372036854775807
  | .str s => s.size <= 9223372036854775807
  | .ints l => l.length <= 9223372036854775807
  | .bool _ => True
end Go.Proofs.YtgbknjdjbahdkaaGreatDoor.Sx
namespace Go.Proofs.YtgbknjdjbahdkaaGreatDoor.Sx
open Go Go.RowKit
section
variable {P : Program}
theorem Blk.load0 {w : World} {t : TypeId} {b k : Nat} {e : TypeId} {cs : List Value} {v : Value} (h : Blk w b e cs) (ht : cellT P t = true) (hx : cs[k]? = some v) : Loads P t ⟨b, k, none⟩ v w :=
  loads1 ht (by rw [h.cell]; exact hx)
theorem Blk.loadA0 {w : World} {t : TypeId} {b : Nat} {e : TypeId} {cs : List Value} (h : Blk w b e cs) (ht : aggT P t cs.length = true) : Loads P t ⟨b, 0, none⟩ (.agg ⟨cs⟩) w :=
  loadsA ht h.seg
theorem Blk.store0 {w : World} {t : TypeId} {b k : Nat} {e : TypeId} {cs : List Value} {v : Value} (h : Blk w b e cs) (ht : cellT P t = true) (hk : k < cs.length) (hv : v.oneCell' = true) :
    ∃ w', Stores P t ⟨b, k, none⟩ v w w' /\ Blk w' b e (cs.set k v) /\ Chg [b] w w' /\ w'.heap.size = w.heap.size := by
  have := h.store (P := P) ht hk hv
  rw [addr_add, Nat.zero_add] at this
  exact this
theorem Blk.storeA0 {w : World} {t : TypeId} {b : Nat} {e : TypeId} {cs xs : List Value} (h : Blk w b e cs) (ht : aggT P t xs.length = true) (hk : xs.length = cs.length) (hv : ∀ v ∈ xs, v.oneCell' = true) :
    ∃ w', Stores P t ⟨b, 0, none⟩ (.agg ⟨xs⟩) w w' /\ Blk w' b e xs /\ Chg [b] w w' /\ w'.heap.size = w.heap.size := by
  obtain ⟨w', h1, h2, h3, h4⟩ := h.storeA (P := P) (k := 0) ht (by omega) hv
  rw [addr_add, Nat.zero_add] at h1
  refine ⟨w', h1, ?_, h3, h4⟩
  rw [List.take_zero, List.nil_append, Nat.zero_add, hk, List.drop_length, List.append_nil] at h2
  exact h2
end
def Own0 (w : World) (B : Nat) (v : Value) : D0 -> List Nat -> Prop
  | .int n, f => v = .int .i64 n /\ f = []
  | .bool b, f => v = .bool b /\ f = []
  | .str s, f => v = .string s /\ f = []
  | .ints zs, f => ∃ p n c, v = .slice p n c /\ Own w B T_int 1 p n c (zs.map (Value.int .i64)) /\ f = (p.map (·.block)).toList
def Owns (w : World) (B : Nat) : List Value -> List D0 -> List Nat -> Prop
  | [], [], f => f = []
  | v :: vs, d :: ds, f => ∃ f1 f2, f = f1 ++ f2 /\ Own0 w B v d f1 /\ Owns w B vs ds f2
  | _, _, _ => False
theorem Own0.rep {w : World} {B : Nat} {v : Value} {d : D0} {f : List Nat} (h : Own0 w B v d f) : Rep0 w v d := by
  cases d <;> simp only [Own0] at h <;> simp only [Rep0]
  case ints zs => obtain ⟨p, n, c, hv, ho, _⟩ := h; exact ⟨p, n, c, hv, ho.ints⟩
  all_goals exact h.1
theorem Owns.reps {w : World} {B : Nat} : ∀ {vs : List Value} {ds : List D0} {f : List Nat}, Owns w B vs ds f -> Reps w vs ds
  | [], [], _, _ => trivial
  | [], _ :: _, _, h => h.elim
  | _ :: _, [], _, h => h.elim
  | _ :: _, _ :: _, _, h => by
    obtain ⟨f1, f2, _, h1, h2⟩ := h
    exact ⟨h1.rep, Owns.reps h2⟩
theorem Own0.lt {w : World} {B : Nat} {v : Value} {d : D0} {f : List Nat} (h : Own0 w B v d f) : ∀ k ∈ f, B <= k /\ k < w.heap.size := by
  cases d <;> simp only [Own0] at h
  case ints zs =>
    obtain ⟨p, n, c, hv, ho, hf⟩ := h
    intro k hk
    rw [hf] at hk
    exact World.ownsRow.lt ho k (by cases p <;> simp_all [Value.ownBlock])
  all_goals (intro k hk; rw [h.2] at hk; simp at hk)
theorem Owns.lt {w : World} {B : Nat} : ∀ {vs : List Value} {ds : List D0} {f : List Nat}, Owns w B vs ds f -> ∀ k ∈ f, B <= k /\ k < w.heap.size
  | [], [], _, h, k, hk => by rw [h] at hk; simp at hk
  | [], _ :: _, _, h, _, _ => h.elim
  | _ :: _, [], _, h, _, _ => h.elim
  | _ :: _, _ :: _, _, h, k, hk => by
    obtain ⟨f1, f2, rfl, h1, h2⟩ := h
    rcases List.mem_append.1 hk with hk | hk
    · exact h1.lt k hk
    · exact Owns.lt h2 k hk
theorem Own0.ext {w w' : World} {B : Nat} {v : Value} {d : D0} {f : List Nat} (h : Own0 w B v d f) (he : Ext w w') : Own0 w' B v d f := by
  cases d <;> simp only [Own0] at h ⊢ <;> try exact h
  obtain ⟨p, n, c, hv, ho, hf⟩ := h
  exact ⟨p, n, c, hv, ho.ext he, hf⟩
theorem Owns.ext {w w' : World} {B : Nat} : ∀ {vs : List Value} {ds : List D0} {f : List Nat}, Owns w B vs ds f -> Ext w w' -> Owns w' B vs ds f
  | [], [], _, h, _ => h
  | [], _ :: _, _, h, _ => h.elim
  | _ :: _, [], _, h, _ => h.elim
  | _ :: _, _ :: _, _, h, he => by
    obtain ⟨f1, f2, rfl, h1, h2⟩ := h
    exact ⟨f1, f2, rfl, h1.ext he, Owns.ext h2 he⟩
theorem Own.chg {S : List Nat} {w w' : World} {B : Nat} {e : TypeId} {size : Nat} {p : Option Addr} {n c : Nat} {xs : List Value} (h : Own w B e size p n c xs) (he : Chg S w w') (hS : ∀ k, p.map (·.block) = some k -> k ∉ S) : Own w' B e size p n c xs := by
  refine ⟨h.1, ?_⟩
  rcases h.2 with h1 | ⟨g, cap, cur, h1, h2, h3, h4⟩
  · exact .inl h1
  · refine .inr ⟨g, cap, cur, h1, h2, ?_, h4⟩
    simp only [Value.slice.injEq] at h1
    rw [he.block g (Array.getElem?_eq_some_iff.1 h3).1 (hS g (by rw [h1.1]; rfl))]
    exact h3
theorem Own0.chg {S : List Nat} {w w' : World} {B : Nat} {v : Value} {d : D0} {f : List Nat} (h : Own0 w B v d f) (he : Chg S w w') (hS : ∀ k ∈ f, k ∉ S) : Own0 w' B v d f := by
  cases d <;> simp only [Own0] at h ⊢ <;> try exact h
  obtain ⟨p, n, c, hv, ho, hf⟩ := h
  exact ⟨p, n, c, hv, ho.chg he (fun k hk => hS k (by rw [hf, hk]; simp)), hf⟩
theorem Owns.chg {S : List Nat} {w w' : World} {B : Nat} : ∀ {vs : List Value} {ds : List D0} {f : List Nat}, Owns w B vs ds f -> Chg S w w' -> (∀ k ∈ f, k ∉ S) -> Owns w' B vs ds f
  | [], [], _, h, _, _ => h
  | [], _ :: _, _, h, _, _ => h.elim
  | _ :: _, [], _, h, _, _ => h.elim
  | _ :: _, _ :: _, _, h, he, hS => by
    obtain ⟨f1, f2, rfl, h1, h2⟩ := h
    exact ⟨f1, f2, rfl, h1.chg he (fun k hk => hS k (by simp [hk])), Owns.chg h2 he (fun k hk => hS k (by simp [hk]))⟩
theorem Owns.chg1 {r : Nat} {w w' : World} {B : Nat} {vs : List Value} {ds : List D0} {f : List Nat} (h : Owns w B vs ds f) (he : Chg [r] w w') (hr : r < B) : Owns w' B vs ds f :=
  h.chg he fun k hk hm => by
    have := (h.lt k hk).1
    simp at hm; omega
theorem Own0.mono {w : World} {B B' : Nat} {v : Value} {d : D0} {f : List Nat} (h : Own0 w B v d f) (hb : B' <= B) : Own0 w B' v d f := by
  cases d <;> simp only [Own0] at h ⊢ <;> try exact h
  obtain ⟨p, n, c, hv, ho, hf⟩ := h
  exact ⟨p, n, c, hv, ho.mono hb, hf⟩
theorem Owns.mono {w : World} {B B' : Nat} (hb : B' <= B) : ∀ {vs : List Value} {ds : List D0} {f : List Nat}, Owns w B vs ds f -> Owns w B' vs ds f
  | [], [], _, h => h
  | [], _ :: _, _, h => h.elim
  | _ :: _, [], _, h => h.elim
  | _ :: _, _ :: _, _, h => by
    obtain ⟨f1, f2, rfl, h1, h2⟩ := h
    exact ⟨f1, f2, rfl, h1.mono hb, Owns.mono hb h2⟩
theorem Owns.append {w : World} {B : Nat} : ∀ {vs us : List Value} {ds es : List D0} {f g : List Nat}, Owns w B vs ds f -> Owns w B us es g -> Owns w B (vs ++ us) (ds ++ es) (f ++ g)
  | [], _, [], _, f, g, h, k => by rw [show f = [] from h]; exact k
  | [], _, _ :: _, _, _, _, h, _ => h.elim
  | _ :: _, _, [], _, _, _, h, _ => h.elim
  | _ :: _, _, _ :: _, _, _, g, h, k => by
    obtain ⟨f1, f2, rfl, h1, h2⟩ := h
    exact ⟨f1, f2 ++ g, by simp, h1, Owns.append h2 k⟩
theorem Owns.nil (w : World) (B : Nat) : Owns w B [] [] [] := rfl
theorem Owns.bool (w : World) (B : Nat) (b : Bool) : Owns w B [.bool b] [.bool b] [] := ⟨[], [], rfl, ⟨rfl, rfl⟩, rfl⟩
theorem Owns.int (w : World) (B : Nat) (n : Int) : Owns w B [.int .i64 n] [.int n] [] := ⟨[], [], rfl, ⟨rfl, rfl⟩, rfl⟩
theorem Owns.str (w : World) (B : Nat) (s : ByteArray) : Owns w B [.string s] [.str s] [] := ⟨[], [], rfl, ⟨rfl, rfl⟩, rfl⟩
theorem Owns.ints {w : World} {B : Nat} {p : Option Addr} {n c : Nat} {zs : List Int} (h : Own w B T_int 1 p n c (zs.map (Value.int .i64))) : Owns w B [.slice p n c] [.ints zs] (p.map (·.block)).toList :=
  ⟨_, [], by simp, ⟨p, n, c, rfl, h, rfl⟩, rfl⟩
theorem nodup_append {f g : List Nat} {m : Nat} (hf : f.Nodup) (hg : g.Nodup) (h1 : ∀ k ∈ f, k < m) (h2 : ∀ k ∈ g, m <= k) : (f ++ g).Nodup := by
  rw [List.nodup_append]
  exact ⟨hf, hg, fun a ha b hb e => by have := h1 a ha; have := h2 b hb; omega⟩
theorem Blk.loadAt {P : Program} {w : World} {t : TypeId} {b : Nat} {e : TypeId} {cs : List Value} {v : Value} {a : Addr} (k : Nat) (h : Blk w b e cs) (ha : a = ⟨b, k, none⟩) (ht : cellT P t = true) (hx : cs[k]? = some v) : Loads P t a v w := by
  subst ha; exact h.load0 ht hx
theorem Blk.loadAAt {P : Program} {w : World} {t : TypeId} {b : Nat} {e : TypeId} {cs : List Value} {a : Addr} (k : Nat) (xs : List Value) (h : Blk w b e cs) (ha : a = ⟨b, k, none⟩) (ht : aggT P t xs.length = true) (hx : (cs.drop k).take xs.length = xs) : Loads P t a (.agg ⟨xs⟩) w := by
  subst ha
  have := h.loadA (P := P) (k := k) ht hx
  rwa [addr_add, Nat.zero_add] at this
theorem Seg.loadAt {P : Program} {w : World} {t : TypeId} {b o : Nat} {cs : List Value} {v : Value} {a : Addr} (k : Nat) (h : Seg w b o cs) (ha : a = ⟨b, o + k, none⟩) (ht : cellT P t = true) (hx : cs[k]? = some v) : Loads P t a v w := by
  subst ha; exact loads1 ht (h _ _ hx)
theorem Seg.loadAAt {P : Program} {w : World} {t : TypeId} {b o : Nat} {cs : List Value} {a : Addr} (k : Nat) (xs : List Value) (h : Seg w b o cs) (ha : a = ⟨b, o + k, none⟩) (ht : aggT P t xs.length = true) (hx : (cs.drop k).take xs.length = xs) : Loads P t a (.agg ⟨xs⟩) w := by
  subst ha
  have := h.loadA (P := P) (k := k) ht hx
  rwa [addr_add] at this
theorem New.fill {P : Program} {w w1 : World} {zs : List Value} {e : TypeId} {r : Nat} (hn : New w (.cells ⟨zs⟩ e (0, 0)) r w1) {t : TypeId} {xs : List Value} (hv : ∀ v ∈ xs, v.oneCell' = true) (ht : aggT P t xs.length = true) (hl : xs.length = zs.length) :
    ∃ w2, Stores P t ⟨r, 0, none⟩ (.agg ⟨xs⟩) w1 w2 /\ Blk w2 r e xs /\ Ext w w2 := by
  obtain ⟨w2, st, hb, ch, sz⟩ := hn.blk.storeA0 (P := P) (t := t) ht hl hv
  exact ⟨w2, st, hb, hn.ext.chg ch (by have := hn.r_eq; simp; omega)⟩
def AllO (w : World) (B k : Nat) : List (List Value) -> List (List D0) -> List (List Nat) -> Prop
  | [], [], [] => True
  | cs :: css, x :: l, f :: fs => cs.length = k /\ Owns w B cs x f /\ AllO w B k css l fs
  | _, _, _ => False
theorem AllO.ext {w w' : World} {B k : Nat} : ∀ {css : List (List Value)} {l : List (List D0)} {fs : List (List Nat)}, AllO w B k css l fs -> Ext w w' -> AllO w' B k css l fs
  | [], [], [], _, _ => trivial
  | _ :: _, _ :: _, _ :: _, h, he => ⟨h.1, h.2.1.ext he, AllO.ext h.2.2 he⟩
  | [], [], _ :: _, h, _ => h.elim
  | [], _ :: _, _, h, _ => h.elim
  | _ :: _, [], _, h, _ => h.elim
  | _ :: _, _ :: _, [], h, _ => h.elim
theorem AllO.chg {S : List Nat} {w w' : World} {B k : Nat} : ∀ {css : List (List Value)} {l : List (List D0)} {fs : List (List Nat)}, AllO w B k css l fs -> Chg S w w' -> (∀ x ∈ fs.flatten, x ∉ S) -> AllO w' B k css l fs
  | [], [], [], _, _, _ => trivial
  | _ :: _, _ :: _, _ :: _, h, he, hS => ⟨h.1, h.2.1.chg he (fun x hx => hS x (by simp [hx])), AllO.chg h.2.2 he (fun x hx => hS x (by rw [List.flatten_cons]; exact List.mem_append_right _ hx))⟩
  | [], [], _ :: _, h, _, _ => h.elim
  | [], _ :: _, _, h, _, _ => h.elim
  | _ :: _, [], _, h, _, _ => h.elim
  | _ :: _, _ :: _, [], h, _, _ => h.elim
theorem AllO.mono {w : World} {B B' k : Nat} (hb : B' <= B) : ∀ {css : List (List Value)} {l : List (List D0)} {fs : List (List Nat)}, AllO w B k css l fs -> AllO w B' k css l fs
  | [], [], [], _ => trivial
  | _ :: _, _ :: _, _ :: _, h => ⟨h.1, h.2.1.mono hb, AllO.mono hb h.2.2⟩
  | [], [], _ :: _, h => h.elim
  | [], _ :: _, _, h => h.elim
  | _ :: _, [], _, h => h.elim
  | _ :: _, _ :: _, [], h => h.elim
theorem AllO.lt {w : World} {B k : Nat} : ∀ {css : List (List Value)} {l : List (List D0)} {fs : List (List Nat)}, AllO w B k css l fs -> ∀ x ∈ fs.flatten, B <= x /\ x < w.heap.size
  | [], [], [], _, x, hx => by simp at hx
  | _ :: _, _ :: _, _ :: _, h, x, hx => by
    rw [List.flatten_cons, List.mem_append] at hx
    rcases hx with hx | hx
    · exact h.2.1.lt x hx
    · exact AllO.lt h.2.2 x hx
  | [], [], _ :: _, h, _, _ => h.elim
  | [], _ :: _, _, h, _, _ => h.elim
  | _ :: _, [], _, h, _, _ => h.elim
  | _ :: _, _ :: _, [], h, _, _ => h.elim
theorem AllO.snoc {w : World} {B k : Nat} {cs : List Value} {x : List D0} {f : List Nat} (hk : cs.length = k) (ho : Owns w B cs x f) : ∀ {css : List (List Value)} {l : List (List D0)} {fs : List (List Nat)}, AllO w B k css l fs -> AllO w B k (css ++ [cs]) (l ++ [x]) (fs ++ [f])
  | [], [], [], _ => ⟨hk, ho, trivial⟩
  | _ :: _, _ :: _, _ :: _, h => ⟨h.1, h.2.1, AllO.snoc hk ho h.2.2⟩
  | [], [], _ :: _, h => h.elim
  | [], _ :: _, _, h => h.elim
  | _ :: _, [], _, h => h.elim
  | _ :: _, _ :: _, [], h => h.elim
theorem AllO.len {w : World} {B k : Nat} : ∀ {css : List (List Value)} {l : List (List D0)} {fs : List (List Nat)}, AllO w B k css l fs -> css.length = l.length /\ css.flatten.length = l.length * k
  | [], [], [], _ => ⟨rfl, by simp⟩
  | cs :: css, x :: l, _ :: _, h => by
    have := AllO.len h.2.2
    refine ⟨by simp [this.1], ?_⟩
    rw [List.flatten_cons, List.length_append, this.2, h.1, List.length_cons, Nat.succ_mul, Nat.add_comm]
  | [], [], _ :: _, h => h.elim
  | [], _ :: _, _, h => h.elim
  | _ :: _, [], _, h => h.elim
  | _ :: _, _ :: _, [], h => h.elim
theorem AllO.cells1 {w : World} {B k : Nat} : ∀ {css : List (List Value)} {l : List (List D0)} {fs : List (List Nat)}, AllO w B k css l fs -> ∀ v ∈ css.flatten, v.oneCell' = true
  | [], [], [], _, v, hv => by simp at hv
  | _ :: _, _ :: _, _ :: _, h, v, hv => by
    rw [List.flatten_cons, List.mem_append] at hv
    rcases hv with hv | hv
    · exact h.2.1.reps.cells1 v hv
    · exact AllO.cells1 h.2.2 v hv
  | [], [], _ :: _, h, _, _ => h.elim
  | [], _ :: _, _, h, _, _ => h.elim
  | _ :: _, [], _, h, _, _ => h.elim
  | _ :: _, _ :: _, [], h, _, _ => h.elim
theorem AllO.at {w : World} {B k : Nat} : ∀ {css : List (List Value)} {l : List (List D0)} {fs : List (List Nat)}, AllO w B k css l fs -> ∀ i x, l[i]? = some x -> ∃ cs, cs.length = k /\ Reps w cs x /\ (css.flatten.drop (i * k)).take k = cs
  | [], [], [], _, i, x, hx => by simp at hx
  | cs :: css, y :: l, _ :: _, h, i, x, hx => by
    cases i with
    | zero =>
      simp only [List.getElem?_cons_zero, Option.some.injEq] at hx
      subst hx
      refine ⟨cs, h.1, h.2.1.reps, ?_⟩
      rw [Nat.zero_mul, List.drop_zero, List.flatten_cons, <- h.1, List.take_left]
    | succ i =>
      simp only [List.getElem?_cons_succ] at hx
      obtain ⟨c, h1, h2, h3⟩ := AllO.at h.2.2 i x hx
      refine ⟨c, h1, h2, ?_⟩
      rw [List.flatten_cons, Nat.succ_mul, Nat.add_comm, <- List.drop_drop, <- h.1, List.drop_left, h.1]
      exact h3
  | [], [], _ :: _, h, _, _, _ => h.elim
  | [], _ :: _, _, h, _, _, _ => h.elim
  | _ :: _, [], _, h, _, _, _ => h.elim
  | _ :: _, _ :: _, [], h, _, _, _ => h.elim
def OwnRows (w : World) (B : Nat) (e : TypeId) (k : Nat) (p : Option Addr) (n c : Nat) (l : List (List D0)) (f : List Nat) : Prop :=
 l.length = n /\ ∃ css fs, AllO w B k css l fs /\ Own w B e k p n c css.flatten /\ f = (p.map (·.block)).toList ++ fs.flatten /\ f.Nodup
theorem OwnRows.rows {w : World} {B : Nat} {e : TypeId} {k : Nat} {p : Option Addr} {n c : Nat} {l : List (List D0)} {f : List Nat} (h : OwnRows w B e k p n c l f) : RowsR w k p n c l := by
  obtain ⟨hl, css, fs, ha, ho, _, _⟩ := h
  refine ⟨hl, ho.le, ho.capLe, fun hn => ?_⟩
  obtain ⟨b, hp, _, hs⟩ := ho.seg hn
  refine ⟨b, 0, hp, fun i x hx => ?_⟩
  obtain ⟨cs, h1, h2, h3⟩ := ha.at i x hx
  exact ⟨cs, h1, h2, by rw [<- h3]; exact (hs.drop (i * k)).take k⟩
theorem OwnRows.lt {w : World} {B : Nat} {e : TypeId} {k : Nat} {p : Option Addr} {n c : Nat} {l : List (List D0)} {f : List Nat} (h : OwnRows w B e k p n c l f) : ∀ x ∈ f, B <= x /\ x < w.heap.size := by
  obtain ⟨hl, css, fs, ha, ho, rfl, _⟩ := h
  intro x hx
  rcases List.mem_append.1 hx with hx | hx
  · exact World.ownsRow.lt ho x (by cases p <;> simp_all [Value.ownBlock])
  · exact ha.lt x hx
theorem OwnRows.ext {w w' : World} {B : Nat} {e : TypeId} {k : Nat} {p : Option Addr} {n c : Nat} {l : List (List D0)} {f : List Nat} (h : OwnRows w B e k p n c l f) (he : Ext w w') : OwnRows w' B e k p n c l f := by
  obtain ⟨hl, css, fs, ha, ho, hf, hn⟩ := h
  exact ⟨hl, css, fs, ha.ext he, ho.ext he, hf, hn⟩
theorem OwnRows.mono {w : World} {B B' : Nat} {e : TypeId} {k : Nat} {p : Option Addr} {n c : Nat} {l : List (List D0)} {f : List Nat} (h : OwnRows w B e k p n c l f) (hb : B' <= B) : OwnRows w B' e k p n c l f := by
  obtain ⟨hl, css, fs, ha, ho, hf, hn⟩ := h
  exact ⟨hl, css, fs, ha.mono hb, ho.mono hb, hf, hn⟩
theorem OwnRows.chg {S : List Nat} {w w' : World} {B : Nat} {e : TypeId} {k : Nat} {p : Option Addr} {n c : Nat} {l : List (List D0)} {f : List Nat} (h : OwnRows w B e k p n c l f) (he : Chg S w w') (hS : ∀ x ∈ f, x ∉ S) : OwnRows w' B e k p n c l f := by
  obtain ⟨hl, css, fs, ha, ho, rfl, hn⟩ := h
  exact ⟨hl, css, fs, ha.chg he (fun x hx => hS x (List.mem_append_right _ hx)), ho.chg he (fun x hx => hS x (List.mem_append_left _ (by rw [hx]; simp))), rfl, hn⟩
theorem dec_no {p : Prop} [Decidable p] (h : ¬ p) : Value.bool false = Value.bool (decide p) := by simp [h]
theorem dec_yes {p : Prop} [Decidable p] (h : p) : Value.bool true = Value.bool (decide p) := by simp [h]
end Go.Proofs.YtgbknjdjbahdkaaGreatDoor.Sx
namespace Go.Proofs.YtgbknjdjbahdkaaGreatDoor
open Go Go.Proofs.YtgbknjdjbahdkaaGreatDoor.Sx
theorem take_set {α : Type} (l : List α) (d v : α) (k : Nat) (hk : k < l.length) (n : Nat) (hn : 0 < n) (h : l[k]? = some v) :
    (l.take k ++ List.replicate n d).set k v = l.take (k + 1) ++ List.replicate (n - 1) d := by
  have hlen : (l.take k).length = k := by simp; omega
  rw [List.set_append_right _ _ (by omega), hlen, Nat.sub_self]
  obtain ⟨m, rfl⟩ : ∃ m, n = m + 1 := ⟨n - 1, by omega⟩
  rw [List.replicate_succ, List.set_cons_zero, List.take_add_one, h]
  simp
end Go.Proofs.YtgbknjdjbahdkaaGreatDoor
namespace Go.Proofs.YtgbknjdjbahdkaaGreatDoor
open Go Go.Proofs.YtgbknjdjbahdkaaGreatDoor.Sx
theorem open_Signed {w : World} {vs : List Value} {ds : List D0} (h : Reps w vs ds) (hc : ds.map D0.code = [.bool, .ints]) :
    ∃ (a0 : Bool) (a1p : Option Addr) (a1n a1c : Nat) (a1z : List Int), vs = [.bool a0, .slice a1p a1n a1c] /\ ds = [.bool a0, .ints a1z] /\ IntsR w a1p a1n a1c a1z := by
  obtain ⟨b0, us, es, hv, hd, h2, hc2⟩ := h.bool hc
  subst hv; subst hd
  clear h hc
  have h := h2; have hc := hc2; clear h2 hc2
  obtain ⟨b1p, b1n, b1c, b1z, us, es, hv, hd, b1h, h2, hc2⟩ := h.ints hc
  subst hv; subst hd
  clear h hc
  have h := h2; have hc := hc2; clear h2 hc2
  obtain ⟨hv, hd⟩ := h.done hc
  subst hv; subst hd; clear h hc
  exact ⟨_, _, _, _, _, rfl, rfl, b1h⟩
theorem open_Rat {w : World} {vs : List Value} {ds : List D0} (h : Reps w vs ds) (hc : ds.map D0.code = [.bool, .ints, .ints]) :
    ∃ (a0 : Bool) (a1p : Option Addr) (a1n a1c : Nat) (a1z : List Int) (a2p : Option Addr) (a2n a2c : Nat) (a2z : List Int), vs = [.bool a0, .slice a1p a1n a1c, .slice a2p a2n a2c] /\ ds = [.bool a0, .ints a1z, .ints a2z] /\ IntsR w a1p a1n a1c a1z /\ IntsR w a2p a2n a2c a2z := by
  obtain ⟨b0, us, es, hv, hd, h2, hc2⟩ := h.bool hc
  subst hv; subst hd
  clear h hc
  have h := h2; have hc := hc2; clear h2 hc2
  obtain ⟨b1p, b1n, b1c, b1z, us, es, hv, hd, b1h, h2, hc2⟩ := h.ints hc
  subst hv; subst hd
  clear h hc
  have h := h2; have hc := hc2; clear h2 hc2
  obtain ⟨b2p, b2n, b2c, b2z, us, es, hv, hd, b2h, h2, hc2⟩ := h.ints hc
  subst hv; subst hd
  clear h hc
  have h := h2; have hc := hc2; clear h2 hc2
  obtain ⟨hv, hd⟩ := h.done hc
  subst hv; subst hd; clear h hc
  exact ⟨_, _, _, _, _, _, _, _, _, rfl, rfl, b1h, b2h⟩
theorem open_Dec {w : World} {vs : List Value} {ds : List D0} (h : Reps w vs ds) (hc : ds.map D0.code = [.bool, .ints, .int]) :
    ∃ (a0 : Bool) (a1p : Option Addr) (a1n a1c : Nat) (a1z : List Int) (a2 : Int), vs = [.bool a0, .slice a1p a1n a1c, .int .i64 a2] /\ ds = [.bool a0, .ints a1z, .int a2] /\ IntsR w a1p a1n a1c a1z := by
  obtain ⟨b0, us, es, hv, hd, h2, hc2⟩ := h.bool hc
  subst hv; subst hd
  clear h hc
  have h := h2; have hc := hc2; clear h2 hc2
  obtain ⟨b1p, b1n, b1c, b1z, us, es, hv, hd, b1h, h2, hc2⟩ := h.ints hc
  subst hv; subst hd
  clear h hc
  have h := h2; have hc := hc2; clear h2 hc2
  obtain ⟨b2, us, es, hv, hd, h2, hc2⟩ := h.int hc
  subst hv; subst hd
  clear h hc
  have h := h2; have hc := hc2; clear h2 hc2
  obtain ⟨hv, hd⟩ := h.done hc
  subst hv; subst hd; clear h hc
  exact ⟨_, _, _, _, _, _, rfl, rfl, b1h⟩
theorem open_Money {w : World} {vs : List Value} {ds : List D0} (h : Reps w vs ds) (hc : ds.map D0.code = [.str, .bool, .ints]) :
    ∃ (a0 : ByteArray) (a1 : Bool) (a2p : Option Addr) (a2n a2c : Nat) (a2z : List Int), vs = [.string a0, .bool a1, .slice a2p a2n a2c] /\ ds = [.str a0, .bool a1, .ints a2z] /\ IntsR w a2p a2n a2c a2z := by
  obtain ⟨b0, us, es, hv, hd, h2, hc2⟩ := h.str hc
  subst hv; subst hd
  clear h hc
  have h := h2; have hc := hc2; clear h2 hc2
  obtain ⟨b1, us, es, hv, hd, h2, hc2⟩ := h.bool hc
  subst hv; subst hd
  clear h hc
  have h := h2; have hc := hc2; clear h2 hc2
  obtain ⟨b2p, b2n, b2c, b2z, us, es, hv, hd, b2h, h2, hc2⟩ := h.ints hc
  subst hv; subst hd
  clear h hc
  have h := h2; have hc := hc2; clear h2 hc2
  obtain ⟨hv, hd⟩ := h.done hc
  subst hv; subst hd; clear h hc
  exact ⟨_, _, _, _, _, _, rfl, rfl, b2h⟩
theorem open_Step {w : World} {vs : List Value} {ds : List D0} (h : Reps w vs ds) (hc : ds.map D0.code = [.int, .bool, .ints, .int]) :
    ∃ (a0 : Int) (a1 : Bool) (a2p : Option Addr) (a2n a2c : Nat) (a2z : List Int) (a3 : Int), vs = [.int .i64 a0, .bool a1, .slice a2p a2n a2c, .int .i64 a3] /\ ds = [.int a0, .bool a1, .ints a2z, .int a3] /\ IntsR w a2p a2n a2c a2z := by
  obtain ⟨b0, us, es, hv, hd, h2, hc2⟩ := h.int hc
  subst hv; subst hd
  clear h hc
  have h := h2; have hc := hc2; clear h2 hc2
  obtain ⟨b1, us, es, hv, hd, h2, hc2⟩ := h.bool hc
  subst hv; subst hd
  clear h hc
  have h := h2; have hc := hc2; clear h2 hc2
  obtain ⟨b2p, b2n, b2c, b2z, us, es, hv, hd, b2h, h2, hc2⟩ := h.ints hc
  subst hv; subst hd
  clear h hc
  have h := h2; have hc := hc2; clear h2 hc2
  obtain ⟨b3, us, es, hv, hd, h2, hc2⟩ := h.int hc
  subst hv; subst hd
  clear h hc
  have h := h2; have hc := hc2; clear h2 hc2
  obtain ⟨hv, hd⟩ := h.done hc
  subst hv; subst hd; clear h hc
  exact ⟨_, _, _, _, _, _, _, rfl, rfl, b2h⟩
end Go.Proofs.YtgbknjdjbahdkaaGreatDoor
