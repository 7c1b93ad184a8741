/-
  Parts of the proof of leastPay_holds: G9, G10, G11, GData, SxMem, SxData, SxOwn, DInts, DS.
  Conditions: none.
-/
import Derived.Laws.AppendOwn
import Derived.Laws.CopyRow
import Derived.Test.YtfehpaekbbmkcaaGreatDoorLp2
set_option linter.unusedVariables false
set_option linter.unusedSimpArgs false

namespace Go.Proofs.YtfehpaekbbmkcaaGreatDoor
variable {w : World} {R : Value -> World -> Prop}
open Go Go.Proofs.YtfehpaekbbmkcaaGreatDoor.Sx
set_option maxRecDepth 100000
def impl_DecOk (d0 : Bool) (a0 : Option Addr) (a1 a2 : Nat) (d2 : Int) (w : World) (R : Value -> World -> Prop) : Prop :=
 ∀ r wv, New w (.cells ⟨[.bool d0, .slice a0 a1 a2, .int .i64 d2]⟩ 63 (0, 0)) r wv ->
 ∃ a3 a4 a5 a6, Loads P 31 ((⟨r, 0, none⟩ : Addr).add 0) (.agg #[.bool a3, .slice a4 a5 a6]) wv /\ Calls P 158 ⟨[.agg #[.bool a3, .slice a4 a5 a6]]⟩ wv fun e a7 =>
 ∃ t5, e = .returned (.bool t5) /\
 (t5 = true ->
 ∃ a8 a9 aa, Loads P 22 (((⟨r, 0, none⟩ : Addr).add 0).add 1) (.slice a8 a9 aa) a7 /\ ((decide ((((a9 : Nat) : Int) : Int) <= 6)) = true ->
 ∃ ab, Loads P 3 ((⟨r, 0, none⟩ : Addr).add 2) (.int .i64 ab) a7 /\ Calls P 266 ⟨[.int .i64 ab]⟩ a7 fun ac ae =>
 ∃ af, ac = .returned (.bool af) /\
 R (.bool af) ae) /\
 ((decide ((((a9 : Nat) : Int) : Int) <= 6)) = false ->
 R (.bool false) a7)) /\
 (t5 = false ->
 (false = true ->
 ∃ ag, Loads P 3 ((⟨r, 0, none⟩ : Addr).add 2) (.int .i64 ag) a7 /\ Calls P 266 ⟨[.int .i64 ag]⟩ a7 fun ah ai =>
 ∃ aj, ah = .returned (.bool aj) /\
 R (.bool aj) ai) /\
 (false = false ->
 R (.bool false) a7))
theorem impl_DecOk_ret {d0 : Bool} {a : Option Addr} {a0 a1 : Nat} {d2 : Int} (h : impl_DecOk d0 a a0 a1 d2 w R) : Ret P 212 [.agg #[.bool d0, .slice a a0 a1, .int .i64 d2]] w R := Ret.of_fsem Tryz.func212 rfl (Eq.mp (show _ = fsem P Tryz.f212 (fun k => []) _ R w from by kernel_rfl) h)
def impl_scaled (scale : Int) (w : World) (R : Value -> World -> Prop) : Prop :=
 ∀ r wv, New w (.cells ⟨[.int .i64 scale]⟩ 3 (0, 0)) r wv ->
 R (.func (.func 267) #[] #[(.pointer (some ⟨r, 0, none⟩))]) wv
theorem impl_scaled_ret {a : Int} (h : impl_scaled a w R) : Ret P 213 [.int .i64 a] w R := Ret.of_fsem Tryz.func213 rfl (Eq.mp (show _ = fsem P Tryz.f213 (fun k => []) _ R w from by kernel_rfl) h)
def impl_RatMul (r0 : Bool) (a0 : Option Addr) (a1 a2 : Nat) (a3 : Option Addr) (a4 a5 : Nat) (s0 : Bool) (a6 : Option Addr) (a7 a8 : Nat) (a9 : Option Addr) (aa ab : Nat) (w : World) (R : Value -> World -> Prop) : Prop :=
 ∀ r wv, New w (.cells ⟨[.bool r0, .slice a0 a1 a2, .slice a3 a4 a5]⟩ 53 (0, 0)) r wv ->
 ∀ ac ae, New wv (.cells ⟨[.bool s0, .slice a6 a7 a8, .slice a9 aa ab]⟩ 53 (0, 0)) ac ae ->
 ∀ af ag, New ae (.cells ⟨[.bool false, .slice none 0 0, .slice none 0 0]⟩ 53 (0, 0)) af ag ->
 ∃ ah ai aj ak al am an, Loads P 53 ⟨r, 0, none⟩ (.agg #[.bool ah, .slice ai aj ak, .slice al am an]) ag /\ ∃ ao ap aq ar au av aw, Loads P 53 ⟨ac, 0, none⟩ (.agg #[.bool ao, .slice ap aq ar, .slice au av aw]) ag /\ Calls P 183 ⟨[.agg #[.bool ah, .slice ai aj ak, .slice al am an], .agg #[.bool ao, .slice ap aq ar, .slice au av aw]]⟩ ag fun e ax =>
 ∃ t8, e = .returned (.bool t8) /\
 ((!t8) = true ->
 ∃ wv_4, Stores P 53 ⟨af, 0, none⟩ (.agg #[.bool false, .slice none 0 0, .slice none 0 0]) ax wv_4 /\
 ∃ r0_1 ay az b0 b1 b2 b3, Loads P 53 ⟨af, 0, none⟩ (.agg #[.bool r0_1, .slice ay az b0, .slice b1 b2 b3]) wv_4 /\ R (.tuple #[.agg #[.bool r0_1, .slice ay az b0, .slice b1 b2 b3], .bool false]) wv_4) /\
 ((!t8) = false ->
 ∃ b4 b5 b6 b7, (∀ wv_5, Ext ax.drew wv_5 -> Loads P 31 ((⟨r, 0, none⟩ : Addr).add 0) (.agg #[.bool b4, .slice b5 b6 b7]) wv_5) /\ ∃ b8 b9 ba bb, (∀ wv_6, Ext ax.drew wv_6 -> Loads P 31 ((⟨ac, 0, none⟩ : Addr).add 0) (.agg #[.bool b8, .slice b9 ba bb]) wv_6) /\ Calls P 258 ⟨[.agg #[.bool b4, .slice b5 b6 b7], .agg #[.bool b8, .slice b9 ba bb]]⟩ ax.drew fun bc bd =>
 ∃ be bf bg bh, bc = .returned (.agg #[.bool be, .slice bf bg bh]) /\
 Ext ax.drew bd /\ ∃ bi bj bk, (∀ wv_8, Ext ax.drew wv_8 -> Loads P 22 ((⟨r, 0, none⟩ : Addr).add 2) (.slice bi bj bk) wv_8) /\ ∃ bl bm bn, (∀ wv_9, Ext ax.drew wv_9 -> Loads P 22 ((⟨ac, 0, none⟩ : Addr).add 2) (.slice bl bm bn) wv_9) /\ Calls P 165 ⟨[.slice bi bj bk, .slice bl bm bn]⟩ bd fun bo bp =>
 ∃ bq br bs, bo = .returned (.slice bq br bs) /\
 Calls P 185 ⟨[.agg #[.bool be, .slice bf bg bh], .slice bq br bs]⟩ bp fun bt bu =>
 ∃ bv bw bx bz c0 c1 c2 c3, bt = .returned (.tuple #[.agg #[.bool bv, .slice bw bx bz, .slice c0 c1 c2], .bool c3]) /\
 ∃ wv_12, Stores P 53 ⟨af, 0, none⟩ (.agg #[.bool bv, .slice bw bx bz, .slice c0 c1 c2]) bu wv_12 /\
 ∃ r0_2 c4 c5 c6 c7 c8 c9, Loads P 53 ⟨af, 0, none⟩ (.agg #[.bool r0_2, .slice c4 c5 c6, .slice c7 c8 c9]) wv_12 /\ R (.tuple #[.agg #[.bool r0_2, .slice c4 c5 c6, .slice c7 c8 c9], .bool c3]) wv_12)
theorem impl_RatMul_ret {r0 : Bool} {a : Option Addr} {a0 a1 : Nat} {a2 : Option Addr} {a3 a4 : Nat} {s0 : Bool} {a5 : Option Addr} {a6 a7 : Nat} {a8 : Option Addr} {a9 b : Nat} (h : impl_RatMul r0 a a0 a1 a2 a3 a4 s0 a5 a6 a7 a8 a9 b w R) : Ret P 217 [.agg #[.bool r0, .slice a a0 a1, .slice a2 a3 a4], .agg #[.bool s0, .slice a5 a6 a7, .slice a8 a9 b]] w R := Ret.of_fsem Tryz.func217 rfl (Eq.mp (show _ = fsem P Tryz.f217 (fun k => []) _ R w from by kernel_rfl) h)
def impl_MoneyRat (m0 : ByteArray) (m1 : Bool) (a0 : Option Addr) (a1 a2 : Nat) (w : World) (R : Value -> World -> Prop) : Prop :=
 ∀ r wv, New w (.cells ⟨[.string m0, .bool m1, .slice a0 a1 a2]⟩ 33 (0, 0)) r wv ->
 ∀ a3 a4, New wv (.cells ⟨[.bool false, .slice none 0 0, .slice none 0 0]⟩ 53 (0, 0)) a3 a4 ->
 ∃ a5 a6 a7 a8 a9, Loads P 33 ⟨r, 0, none⟩ (.agg #[.string a5, .bool a6, .slice a7 a8 a9]) a4 /\ Calls P 69 ⟨[.agg #[.string a5, .bool a6, .slice a7 a8 a9]]⟩ a4 fun e aa =>
 ∃ t4, e = .returned (.bool t4) /\
 ((!t4) = true ->
 ∃ wv_3, Stores P 53 ⟨a3, 0, none⟩ (.agg #[.bool false, .slice none 0 0, .slice none 0 0]) aa wv_3 /\
 ∃ r0 ab ac ae af ag ah, Loads P 53 ⟨a3, 0, none⟩ (.agg #[.bool r0, .slice ab ac ae, .slice af ag ah]) wv_3 /\ R (.agg #[.bool r0, .slice ab ac ae, .slice af ag ah]) wv_3) /\
 ((!t4) = false ->
 ∃ ai aj ak al, Loads P 31 ((⟨r, 0, none⟩ : Addr).add 1) (.agg #[.bool ai, .slice aj ak al]) aa /\ Calls P 187 ⟨[.agg #[.bool ai, .slice aj ak al]]⟩ aa fun am an =>
 ∃ ao ap aq ar, am = .returned (.agg #[.bool ao, .slice ap aq ar]) /\
 ∀ au av, New an (.cells ⟨[.int .i64 1]⟩ 3 (0, 0)) au av ->
 ∃ wv_6, Stores P 53 ⟨a3, 0, none⟩ (.agg #[.bool ao, .slice ap aq ar, (.slice (some ⟨au, 0, none⟩) 1 1)]) av wv_6 /\
 ∃ r0_1 aw ax ay az b0 b1, Loads P 53 ⟨a3, 0, none⟩ (.agg #[.bool r0_1, .slice aw ax ay, .slice az b0 b1]) wv_6 /\ R (.agg #[.bool r0_1, .slice aw ax ay, .slice az b0 b1]) wv_6)
theorem impl_MoneyRat_ret {m0 : ByteArray} {m1 : Bool} {a : Option Addr} {a0 a1 : Nat} (h : impl_MoneyRat m0 m1 a a0 a1 w R) : Ret P 218 [.agg #[.string m0, .bool m1, .slice a a0 a1]] w R := Ret.of_fsem Tryz.func218 rfl (Eq.mp (show _ = fsem P Tryz.f218 (fun k => []) _ R w from by kernel_rfl) h)
def impl_DecRat (d0 : Bool) (a0 : Option Addr) (a1 a2 : Nat) (d2 : Int) (w : World) (R : Value -> World -> Prop) : Prop :=
 ∀ r wv, New w (.cells ⟨[.bool d0, .slice a0 a1 a2, .int .i64 d2]⟩ 63 (0, 0)) r wv ->
 ∀ a3 a4, New wv (.cells ⟨[.bool false, .slice none 0 0, .slice none 0 0]⟩ 53 (0, 0)) a3 a4 ->
 ∃ a5 a6 a7 a8 a9, Loads P 63 ⟨r, 0, none⟩ (.agg #[.bool a5, .slice a6 a7 a8, .int .i64 a9]) a4 /\ Calls P 212 ⟨[.agg #[.bool a5, .slice a6 a7 a8, .int .i64 a9]]⟩ a4 fun e aa =>
 ∃ t6, e = .returned (.bool t6) /\
 ((!t6) = true ->
 ∃ wv_3, Stores P 53 ⟨a3, 0, none⟩ (.agg #[.bool false, .slice none 0 0, .slice none 0 0]) aa wv_3 /\
 ∃ r0 ab ac ae af ag ah, Loads P 53 ⟨a3, 0, none⟩ (.agg #[.bool r0, .slice ab ac ae, .slice af ag ah]) wv_3 /\ R (.agg #[.bool r0, .slice ab ac ae, .slice af ag ah]) wv_3) /\
 ((!t6) = false ->
 ∃ ai aj ak al, (∀ wv_4, Ext aa.drew wv_4 -> Loads P 31 ((⟨r, 0, none⟩ : Addr).add 0) (.agg #[.bool ai, .slice aj ak al]) wv_4) /\ ∃ am, (∀ wv_5, Ext aa.drew wv_5 -> Loads P 3 ((⟨r, 0, none⟩ : Addr).add 2) (.int .i64 am) wv_5) /\ ∀ (ss : List (Option Nat)) (an : World), Fl [.cells ⟨[.bool false, .slice none 0 0, .slice none 0 0]⟩ 53 (0, 0)] [none] aa.drew ss an ->
 Calls P 268 ⟨[.int .i64 am]⟩ an fun ao ap =>
 ∃ aq ar au, ao = .returned (.slice aq ar au) /\
 Ext an ap /\ ∀ (ss_1 : List (Option Nat)) (av : World), Fl [.cells ⟨[.bool false, .slice none 0 0, .slice none 0 0]⟩ 53 (0, 0)] ss ap ss_1 av ->
 Calls P 185 ⟨[.agg #[.bool ai, .slice aj ak al], .slice aq ar au]⟩ av fun aw ax =>
 ∃ ay az b0 b1 b2 b3 b4 b5, aw = .returned (.tuple #[.agg #[.bool ay, .slice az b0 b1, .slice b2 b3 b4], .bool b5]) /\
 ∀ (ss_2 : List (Option Nat)) (b6 : World) (b7 : Nat), Fl [.cells ⟨[.bool false, .slice none 0 0, .slice none 0 0]⟩ 53 (0, 0)] ss_1 ax ss_2 b6 -> ss_2[0]? = some (some b7) ->
 ∃ wv_11, Stores P 53 ⟨b7, 0, none⟩ (.agg #[.bool ay, .slice az b0 b1, .slice b2 b3 b4]) b6 wv_11 /\
 ∃ b8 b9 ba bb bc bd be, Loads P 53 ⟨b7, 0, none⟩ (.agg #[.bool b8, .slice b9 ba bb, .slice bc bd be]) wv_11 /\ ∃ wv_12, Stores P 53 ⟨a3, 0, none⟩ (.agg #[.bool b8, .slice b9 ba bb, .slice bc bd be]) wv_11 wv_12 /\
 ∃ r0_1 bf bg bh bi bj bk, Loads P 53 ⟨a3, 0, none⟩ (.agg #[.bool r0_1, .slice bf bg bh, .slice bi bj bk]) wv_12 /\ R (.agg #[.bool r0_1, .slice bf bg bh, .slice bi bj bk]) wv_12)
theorem impl_DecRat_ret {d0 : Bool} {a : Option Addr} {a0 a1 : Nat} {d2 : Int} (h : impl_DecRat d0 a a0 a1 d2 w R) : Ret P 219 [.agg #[.bool d0, .slice a a0 a1, .int .i64 d2]] w R := Ret.of_fsem Tryz.func219 rfl (Eq.mp (show _ = fsem P Tryz.f219 (fun k => []) _ R w from by kernel_rfl) h)
def impl_RatMoney (cur : ByteArray) (r0 : Bool) (a0 : Option Addr) (a1 a2 : Nat) (a3 : Option Addr) (a4 a5 : Nat) (mode : Int) (w : World) (R : Value -> World -> Prop) : Prop :=
 ∀ r wv, New w (.cells ⟨[.bool r0, .slice a0 a1 a2, .slice a3 a4 a5]⟩ 53 (0, 0)) r wv ->
 ∀ a6 a7, New wv (.cells ⟨[.string ByteArray.empty, .bool false, .slice none 0 0]⟩ 33 (0, 0)) a6 a7 ->
 ∀ a8 a9, New a7 (.cells ⟨[.bool false, .slice none 0 0, .slice none 0 0]⟩ 53 (0, 0)) a8 a9 ->
 ∃ aa ab ac ae af ag ah, Loads P 53 ⟨r, 0, none⟩ (.agg #[.bool aa, .slice ab ac ae, .slice af ag ah]) a9 /\ Calls P 271 ⟨[.agg #[.bool aa, .slice ab ac ae, .slice af ag ah], .int .i64 mode]⟩ a9 fun e ai =>
 ∃ aj ak al am an ao ap aq ar au av aw, e = .returned (.tuple #[.agg #[.bool aj, .slice ak al am], .agg #[.bool an, .slice ao ap aq, .slice ar au av], .bool aw]) /\
 ∀ ax ay, New ai (.cells ⟨[.bool false, .slice none 0 0]⟩ 31 (0, 0)) ax ay ->
 ∀ az b0, New ay (.cells ⟨[.bool false, .slice none 0 0, .slice none 0 0]⟩ 53 (0, 0)) az b0 ->
 ∃ wv_6, Stores P 31 ⟨ax, 0, none⟩ (.agg #[.bool aj, .slice ak al am]) b0 wv_6 /\
 ∃ wv_7, Stores P 53 ⟨az, 0, none⟩ (.agg #[.bool an, .slice ao ap aq, .slice ar au av]) wv_6 wv_7 /\
 ((!aw) = true ->
 ∃ wv_8, Stores P 33 ⟨a6, 0, none⟩ (.agg #[.string ByteArray.empty, .bool false, .slice none 0 0]) wv_7 wv_8 /\
 ∃ wv_9, Stores P 53 ⟨a8, 0, none⟩ (.agg #[.bool false, .slice none 0 0, .slice none 0 0]) wv_8 wv_9 /\
 ∃ r0_1 r1 b1 b2 b3, Loads P 33 ⟨a6, 0, none⟩ (.agg #[.string r0_1, .bool r1, .slice b1 b2 b3]) wv_9 /\ ∃ r0_2 b4 b5 b6 b7 b8 b9, Loads P 53 ⟨a8, 0, none⟩ (.agg #[.bool r0_2, .slice b4 b5 b6, .slice b7 b8 b9]) wv_9 /\ R (.tuple #[.agg #[.string r0_1, .bool r1, .slice b1 b2 b3], .agg #[.bool r0_2, .slice b4 b5 b6, .slice b7 b8 b9], .bool false]) wv_9) /\
 ((!aw) = false ->
 ∃ ba bb bc bd, Loads P 31 ⟨ax, 0, none⟩ (.agg #[.bool ba, .slice bb bc bd]) wv_7 /\ Calls P 272 ⟨[.string cur, .agg #[.bool ba, .slice bb bc bd]]⟩ wv_7 fun be bf =>
 ∃ bg bh bi bj bk bl, be = .returned (.tuple #[.agg #[.string bg, .bool bh, .slice bi bj bk], .bool bl]) /\
 ∀ bm bn, New bf (.cells ⟨[.string ByteArray.empty, .bool false, .slice none 0 0]⟩ 33 (0, 0)) bm bn ->
 ∃ wv_12, Stores P 33 ⟨bm, 0, none⟩ (.agg #[.string bg, .bool bh, .slice bi bj bk]) bn wv_12 /\
 ((!bl) = true ->
 ∃ wv_13, Stores P 33 ⟨a6, 0, none⟩ (.agg #[.string ByteArray.empty, .bool false, .slice none 0 0]) wv_12 wv_13 /\
 ∃ wv_14, Stores P 53 ⟨a8, 0, none⟩ (.agg #[.bool false, .slice none 0 0, .slice none 0 0]) wv_13 wv_14 /\
 ∃ r0_3 r1_1 bo bp bq, Loads P 33 ⟨a6, 0, none⟩ (.agg #[.string r0_3, .bool r1_1, .slice bo bp bq]) wv_14 /\ ∃ r0_4 br bs bt bu bv bw, Loads P 53 ⟨a8, 0, none⟩ (.agg #[.bool r0_4, .slice br bs bt, .slice bu bv bw]) wv_14 /\ R (.tuple #[.agg #[.string r0_3, .bool r1_1, .slice bo bp bq], .agg #[.bool r0_4, .slice br bs bt, .slice bu bv bw], .bool false]) wv_14) /\
 ((!bl) = false ->
 ∃ blks : List Nat, ∃ bx bz c0 c1 c2, (∀ wv_15, EX blks wv_12.drew wv_15 -> Loads P 33 ⟨bm, 0, none⟩ (.agg #[.string bx, .bool bz, .slice c0 c1 c2]) wv_15) /\ ∃ c3 c4 c5 c6 c7 c8 c9, (∀ wv_16, EX blks wv_12.drew wv_16 -> Loads P 53 ⟨az, 0, none⟩ (.agg #[.bool c3, .slice c4 c5 c6, .slice c7 c8 c9]) wv_16) /\ ∃ wv_17, Stores P 33 ⟨a6, 0, none⟩ (.agg #[.string bx, .bool bz, .slice c0 c1 c2]) wv_12.drew wv_17 /\
 EX blks wv_12.drew wv_17 /\ ∃ wv_18, Stores P 53 ⟨a8, 0, none⟩ (.agg #[.bool c3, .slice c4 c5 c6, .slice c7 c8 c9]) wv_17 wv_18 /\
 ∃ r0_5 r1_2 ca cb cc, Loads P 33 ⟨a6, 0, none⟩ (.agg #[.string r0_5, .bool r1_2, .slice ca cb cc]) wv_18 /\ ∃ r0_6 cd ce cf cg ch ci, Loads P 53 ⟨a8, 0, none⟩ (.agg #[.bool r0_6, .slice cd ce cf, .slice cg ch ci]) wv_18 /\ R (.tuple #[.agg #[.string r0_5, .bool r1_2, .slice ca cb cc], .agg #[.bool r0_6, .slice cd ce cf, .slice cg ch ci], .bool true]) wv_18))
theorem impl_RatMoney_ret {a : ByteArray} {r0 : Bool} {a0 : Option Addr} {a1 a2 : Nat} {a3 : Option Addr} {a4 a5 : Nat} {a6 : Int} (h : impl_RatMoney a r0 a0 a1 a2 a3 a4 a5 a6 w R) : Ret P 220 [.string a, .agg #[.bool r0, .slice a0 a1 a2, .slice a3 a4 a5], .int .i64 a6] w R := Ret.of_fsem Tryz.func220 rfl (Eq.mp (show _ = fsem P Tryz.f220 (fun k => []) _ R w from by kernel_rfl) h)
def spec_NatOf (n : Int) (w : World) (R : Value -> World -> Prop) : Prop :=
 ∀ r wv, New w (.cells ⟨[]⟩ 3 (0, 0)) r wv ->
 ∃ (a0 : Int -> Option Addr -> Nat -> Nat -> World -> Prop) (mu : Int -> Option Addr -> Nat -> Nat -> World -> Nat), a0 n (some ⟨r, 0, none⟩) 0 0 wv /\
 ∀ (a1 : Fr) (a2 : World) (n_1 : Int) (a3 : Option Addr) (a4 a5 : Nat), a0 n_1 a3 a4 a5 a2 ->
 ((decide ((0 : Int) < n_1)) = true ->
 (1000000000 : Int) ≠ 0 /\ ∃ t9 : Int, t9 = Int.tmod n_1 1000000000 /\ ∀ a6 a7, New a2 (.cells ⟨[.int .i64 t9]⟩ 3 (0, 0)) a6 a7 ->
 ∃ a8 a9 aa ab, Appends P [22, 22] [.slice a3 a4 a5, (.slice (some ⟨a6, 0, none⟩) 1 1)] (.slice a8 a9 aa) a7 ab /\
 (1000000000 : Int) ≠ 0 /\ ∃ ac : Int, ac = IntKind.wrap .i64 (Int.tdiv n_1 1000000000) /\ a0 ac a8 a9 aa ab /\ mu ac a8 a9 aa ab < mu n_1 a3 a4 a5 a2) /\
 ((decide ((0 : Int) < n_1)) = false ->
 R (.slice a3 a4 a5) a2)
theorem spec_NatOf_ret {n : Int} (h : spec_NatOf n w R) : Ret P 221 [.int .i64 n] w R := Ret.of_fsem Tryz.func221 rfl (Eq.mp (show _ = fsem P Tryz.f221 (fun k => cond (Nat.beq k 3) [(0, .one (.int .i64)), (3, .one .slice)] ([])) _ R w from by kernel_rfl) h)
def spec_l02Cmp (a0 : Option Addr) (a1 a2 : Nat) (a3 : Option Addr) (a4 a5 : Nat) (w : World) (R : Value -> World -> Prop) : Prop :=
 ((decide ((((a1 : Nat) : Int) : Int) ≠ ((a4 : Nat) : Int))) = true ->
 ((decide ((((a1 : Nat) : Int) : Int) < ((a4 : Nat) : Int))) = true ->
 R (.int .i64 (-1)) w) /\
 ((decide ((((a1 : Nat) : Int) : Int) < ((a4 : Nat) : Int))) = false ->
 R (.int .i64 1) w)) /\
 ((decide ((((a1 : Nat) : Int) : Int) ≠ ((a4 : Nat) : Int))) = false ->
 ∃ a6 : Int, a6 = IntKind.wrap .i64 (((a1 : Nat) : Int) - 1) /\ ∃ (a7 : Int -> World -> Prop) (mu : Int -> World -> Nat), a7 a6 w /\
 ∀ (a8 : Fr) (wv : World) (i : Int), a7 i wv ->
 ((decide ((0 : Int) <= i)) = true ->
 (0 <= (i : Int) /\ (i : Int) < (a1 : Nat)) /\ ptrS a0 fun ad => ∃ a9, (∀ wv_1, Ext wv.drew wv_1 -> Loads P 3 (ad.add (i.toNat * 1)) (.int .i64 a9) wv_1) /\ (0 <= (i : Int) /\ (i : Int) < (a4 : Nat)) /\ ptrS a3 fun aa => ∃ ab, (∀ wv_2, Ext wv.drew wv_2 -> Loads P 3 (aa.add (i.toNat * 1)) (.int .i64 ab) wv_2) /\ ((decide ((a9 : Int) < ab)) = true ->
 R (.int .i64 (-1)) wv.drew) /\
 ((decide ((a9 : Int) < ab)) = false ->
 (0 <= (i : Int) /\ (i : Int) < (a1 : Nat)) /\ ptrS a0 fun ac => ∃ ae, (∀ wv_3, Ext wv.drew.drew wv_3 -> Loads P 3 (ac.add (i.toNat * 1)) (.int .i64 ae) wv_3) /\ (0 <= (i : Int) /\ (i : Int) < (a4 : Nat)) /\ ptrS a3 fun af => ∃ ag, (∀ wv_4, Ext wv.drew.drew wv_4 -> Loads P 3 (af.add (i.toNat * 1)) (.int .i64 ag) wv_4) /\ ((decide ((ag : Int) < ae)) = true ->
 R (.int .i64 1) wv.drew.drew) /\
 ((decide ((ag : Int) < ae)) = false ->
 ∃ ah : Int, ah = IntKind.wrap .i64 (i - 1) /\ a7 ah wv.drew.drew /\ mu ah wv.drew.drew < mu i wv))) /\
 ((decide ((0 : Int) <= i)) = false ->
 R (.int .i64 0) wv))
theorem spec_l02Cmp_ret {a : Option Addr} {a0 a1 : Nat} {a2 : Option Addr} {a3 a4 : Nat} (h : spec_l02Cmp a a0 a1 a2 a3 a4 w R) : Ret P 222 [.slice a a0 a1, .slice a2 a3 a4] w R := Ret.of_fsem Tryz.func222 rfl (Eq.mp (show _ = fsem P Tryz.f222 (fun k => cond (Nat.beq k 7) [(5, .one (.int .i64))] ([])) _ R w from by kernel_rfl) h)
def spec_NatOk (a0 : Option Addr) (a1 a2 : Nat) (w : World) (R : Value -> World -> Prop) : Prop :=
 ∃ (a3 : Int -> World -> Prop) (mu : Int -> World -> Nat), a3 0 w /\
 ∀ (a4 : Fr) (wv : World) (t7 : Int), a3 t7 wv ->
 ((decide ((t7 : Int) < ((a1 : Nat) : Int))) = true ->
 (0 <= (t7 : Int) /\ (t7 : Int) < (a1 : Nat)) /\ ptrS a0 fun ad => ∃ a5, Loads P 3 (ad.add (t7.toNat * 1)) (.int .i64 a5) wv /\ Calls P 125 ⟨[.int .i64 a5, .int .i64 0, .int .i64 999999999]⟩ wv fun e a6 =>
 ∃ a7, e = .returned (.bool a7) /\
 ((!a7) = true ->
 R (.bool false) a6) /\
 ((!a7) = false ->
 ∃ a8 : Int, a8 = IntKind.wrap .i64 (t7 + 1) /\ a3 a8 a6 /\ mu a8 a6 < mu t7 wv)) /\
 ((decide ((t7 : Int) < ((a1 : Nat) : Int))) = false ->
 ((decide ((((a1 : Nat) : Int) : Int) <= 50)) = true ->
 ((decide ((((a1 : Nat) : Int) : Int) = 0)) = true ->
 R (.bool true) wv) /\
 ((decide ((((a1 : Nat) : Int) : Int) = 0)) = false ->
 ∃ a9 : Int, a9 = IntKind.wrap .i64 (((a1 : Nat) : Int) - 1) /\ (0 <= (a9 : Int) /\ (a9 : Int) < (a1 : Nat)) /\ ptrS a0 fun aa => ∃ ab, Loads P 3 (aa.add (a9.toNat * 1)) (.int .i64 ab) wv /\ R (.bool (decide ((ab : Int) ≠ 0))) wv)) /\
 ((decide ((((a1 : Nat) : Int) : Int) <= 50)) = false ->
 R (.bool false) wv))
theorem spec_NatOk_ret {a : Option Addr} {a0 a1 : Nat} (h : spec_NatOk a a0 a1 w R) : Ret P 223 [.slice a a0 a1] w R := Ret.of_fsem Tryz.func223 rfl (Eq.mp (show _ = fsem P Tryz.f223 (fun k => cond (Nat.beq k 3) [(7, .one (.int .i64))] ([])) _ R w from by kernel_rfl) h)
def spec_l03Div_j0 (a0 : World) (a1 : Option Addr -> Nat -> Nat -> Int -> World -> Prop) (mu : Option Addr -> Nat -> Nat -> Int -> World -> Nat) (a2 : Option Addr) (a3 a4 : Nat) (i : Int) (a5 : Option Addr) (a6 a7 : Nat) (W : World) (R : Value -> World -> Prop) : Prop :=
 ∃ a8 : Int, a8 = IntKind.wrap .i64 (i - 1) /\ a1 a5 a6 a7 a8 W /\ mu a5 a6 a7 a8 W < mu a2 a3 a4 i a0
def spec_l03Div (a0 : Option Addr) (a1 a2 : Nat) (a3 : Option Addr) (a4 a5 : Nat) (w : World) (R : Value -> World -> Prop) : Prop :=
 ((decide ((((a4 : Nat) : Int) : Int) = 1)) = true ->
 (0 <= (0 : Int) /\ (0 : Int) < (a4 : Nat)) /\ ptrS a3 fun ad => ∃ a6, Loads P 3 (ad.add (0 * 1)) (.int .i64 a6) w /\ Calls P 273 ⟨[.slice a0 a1 a2, .int .i64 a6]⟩ w fun e wv =>
 ∃ a7 a8 a9 aa, e = .returned (.tuple #[.slice a7 a8 a9, .int .i64 aa]) /\
 Calls P 221 ⟨[.int .i64 aa]⟩ wv fun ab ac =>
 ∃ ae af ag, ab = .returned (.slice ae af ag) /\
 R (.tuple #[.slice a7 a8 a9, .slice ae af ag]) ac) /\
 ((decide ((((a4 : Nat) : Int) : Int) = 1)) = false ->
 (0 <= (((a1 : Nat) : Int) : Int) /\ (((a1 : Nat) : Int) : Int) <= ((a1 : Nat) : Int) /\ ((8 : Nat) : Int) * ((a1 : Nat) : Int) <= 281474976710656) /\
 ∀ r ah, New w (.cells ⟨zeroRow (.int .i64 0) (a1 * 1)⟩ 3 (0, 0)) r ah ->
 ∀ ai aj, New ah (.cells ⟨[]⟩ 3 (0, 0)) ai aj ->
 ∃ ak : Int, ak = IntKind.wrap .i64 (((a1 : Nat) : Int) - 1) /\ ∃ (al : Option Addr -> Nat -> Nat -> Int -> World -> Prop) (mu : Option Addr -> Nat -> Nat -> Int -> World -> Nat), al (some ⟨ai, 0, none⟩) 0 0 ak aj /\
 ∀ (am : Fr) (an : World) (ao : Option Addr) (ap aq : Nat) (i : Int), al ao ap aq i an ->
 ((decide ((0 : Int) <= i)) = true ->
 (0 <= (i : Int) /\ (i : Int) < (a1 : Nat)) /\ ptrS a0 fun ar => ∃ au, Loads P 3 (ar.add (i.toNat * 1)) (.int .i64 au) an /\ ∀ av aw, New an (.cells ⟨[.int .i64 au]⟩ 3 (0, 0)) av aw ->
 ∃ ax ay az b0, Appends P [22, 22] [(.slice (some ⟨av, 0, none⟩) 1 1), .slice ao ap aq] (.slice ax ay az) aw b0 /\
 Calls P 243 ⟨[.slice ax ay az]⟩ b0 fun b1 b2 =>
 ∃ b3 b4 b5, b1 = .returned (.slice b3 b4 b5) /\
 Calls P 222 ⟨[.slice b3 b4 b5, .slice a3 a4 a5]⟩ b2 fun b6 b7 =>
 ∃ b8, b6 = .returned (.int .i64 b8) /\
 ((decide ((b8 : Int) < 0)) = true ->
 spec_l03Div_j0 an al mu ao ap aq i b3 b4 b5 b7 R) /\
 ((decide ((b8 : Int) < 0)) = false ->
 Calls P 274 ⟨[.slice b3 b4 b5, .slice a3 a4 a5]⟩ b7 fun b9 ba =>
 ∃ bb, b9 = .returned (.int .i64 bb) /\
 (0 <= (i : Int) /\ (i : Int) < (a1 : Nat)) /\ ∃ wv_10, Stores P 3 ((⟨r, 0, none⟩ : Addr).add (i.toNat * 1)) (.int .i64 bb) ba wv_10 /\
 Calls P 221 ⟨[.int .i64 bb]⟩ wv_10 fun bc bd =>
 ∃ be bf bg, bc = .returned (.slice be bf bg) /\
 Calls P 175 ⟨[.slice a3 a4 a5, .slice be bf bg]⟩ bd fun bh bi =>
 ∃ bj bk bl, bh = .returned (.slice bj bk bl) /\
 Calls P 245 ⟨[.slice b3 b4 b5, .slice bj bk bl]⟩ bi fun bm bn =>
 ∃ bo bp bq, bm = .returned (.slice bo bp bq) /\
 spec_l03Div_j0 an al mu ao ap aq i bo bp bq bn R)) /\
 ((decide ((0 : Int) <= i)) = false ->
 Calls P 243 ⟨[(.slice (some ⟨r, 0, none⟩) a1 a1)]⟩ an fun br bs =>
 ∃ bt bu bv, br = .returned (.slice bt bu bv) /\
 R (.tuple #[.slice bt bu bv, .slice ao ap aq]) bs))
theorem spec_l03Div_ret {a : Option Addr} {a0 a1 : Nat} {a2 : Option Addr} {a3 a4 : Nat} (h : spec_l03Div a a0 a1 a2 a3 a4 w R) : Ret P 224 [.slice a a0 a1, .slice a2 a3 a4] w R := Ret.of_fsem Tryz.func224 rfl (Eq.mp (show _ = fsem P Tryz.f224 (fun k => cond (Nat.beq k 8) [(9, .one .slice), (10, .one (.int .i64))] ([])) _ R w from by kernel_rfl) h)
def spec_PlanDone (a0 : Option Addr) (a1 a2 : Nat) (w : World) (R : Value -> World -> Prop) : Prop :=
 ((decide ((0 : Int) < ((a1 : Nat) : Int))) = true ->
 ∃ a3 : Int, a3 = IntKind.wrap .i64 (((a1 : Nat) : Int) - 1) /\ (0 <= (a3 : Int) /\ (a3 : Int) < (a1 : Nat)) /\ ptrS a0 fun ad => ∃ a4 a5 a6 a7, Loads P 31 (((ad.add (a3.toNat * 9)).add 6).add 1) (.agg #[.bool a4, .slice a5 a6 a7]) w /\ Calls P 151 ⟨[.agg #[.bool a4, .slice a5 a6 a7]]⟩ w fun e wv =>
 ∃ a8, e = .returned (.bool a8) /\
 (a8 = true ->
 ∃ a9 : Int, a9 = IntKind.wrap .i64 (((a1 : Nat) : Int) - 1) /\ (0 <= (a9 : Int) /\ (a9 : Int) < (a1 : Nat)) /\ ptrS a0 fun aa => ∃ ab ac ae af, Loads P 31 (((aa.add (a9.toNat * 9)).add 6).add 1) (.agg #[.bool ab, .slice ac ae af]) wv /\ Calls P 141 ⟨[.agg #[.bool ab, .slice ac ae af]]⟩ wv fun ag ah =>
 ∃ ai, ag = .returned (.int .i64 ai) /\
 R (.bool (decide ((ai : Int) = 0))) ah) /\
 (a8 = false ->
 R (.bool false) wv)) /\
 ((decide ((0 : Int) < ((a1 : Nat) : Int))) = false ->
 (false = true ->
 ∃ aj : Int, aj = IntKind.wrap .i64 (((a1 : Nat) : Int) - 1) /\ (0 <= (aj : Int) /\ (aj : Int) < (a1 : Nat)) /\ ptrS a0 fun ak => ∃ al am an ao, Loads P 31 (((ak.add (aj.toNat * 9)).add 6).add 1) (.agg #[.bool al, .slice am an ao]) w /\ Calls P 141 ⟨[.agg #[.bool al, .slice am an ao]]⟩ w fun ap aq =>
 ∃ ar, ap = .returned (.int .i64 ar) /\
 R (.bool (decide ((ar : Int) = 0))) aq) /\
 (false = false ->
 R (.bool false) w))
theorem spec_PlanDone_ret {a : Option Addr} {a0 a1 : Nat} (h : spec_PlanDone a a0 a1 w R) : Ret P 225 [.slice a a0 a1] w R := Ret.of_fsem Tryz.func225 rfl (Eq.mp (show _ = fsem P Tryz.f225 (fun k => []) _ R w from by kernel_rfl) h)
def impl_intNeg (x0 : Bool) (a0 : Option Addr) (a1 a2 : Nat) (w : World) (R : Value -> World -> Prop) : Prop :=
 ∀ r wv, New w (.cells ⟨[.bool x0, .slice a0 a1 a2]⟩ 31 (0, 0)) r wv ->
 ∀ a3 a4, New wv (.cells ⟨[.bool false, .slice none 0 0]⟩ 31 (0, 0)) a3 a4 ->
 ∃ t4, (∀ wv_2, Ext a4.drew wv_2 -> Loads P 4 ((⟨r, 0, none⟩ : Addr).add 0) (.bool t4) wv_2) /\ ∃ a5 a6 a7, (∀ wv_3, Ext a4.drew wv_3 -> Loads P 22 ((⟨r, 0, none⟩ : Addr).add 1) (.slice a5 a6 a7) wv_3) /\ Calls P 162 ⟨[.slice a5 a6 a7]⟩ a4.drew fun e a8 =>
 ∃ a9 aa ab, e = .returned (.slice a9 aa ab) /\
 Ext a4.drew a8 /\ Calls P 173 ⟨[(.bool (!t4)), .slice a9 aa ab]⟩ a8 fun ac ae =>
 ∃ af ag ah ai, ac = .returned (.agg #[.bool af, .slice ag ah ai]) /\
 ∃ wv_6, Stores P 31 ⟨a3, 0, none⟩ (.agg #[.bool af, .slice ag ah ai]) ae wv_6 /\
 ∃ r0 aj ak al, Loads P 31 ⟨a3, 0, none⟩ (.agg #[.bool r0, .slice aj ak al]) wv_6 /\ R (.agg #[.bool r0, .slice aj ak al]) wv_6
theorem impl_intNeg_ret {x0 : Bool} {a : Option Addr} {a0 a1 : Nat} (h : impl_intNeg x0 a a0 a1 w R) : Ret P 226 [.agg #[.bool x0, .slice a a0 a1]] w R := Ret.of_fsem Tryz.func226 rfl (Eq.mp (show _ = fsem P Tryz.f226 (fun k => []) _ R w from by kernel_rfl) h)
def impl_trim (a0 : Option Addr) (a1 a2 : Nat) (w : World) (R : Value -> World -> Prop) : Prop :=
 ∃ (a3 : Option Addr -> Nat -> Nat -> World -> Prop) (mu : Option Addr -> Nat -> Nat -> World -> Nat), a3 a0 a1 a2 w /\
 ∀ (a4 : Fr) (wv : World) (a5 : Option Addr) (a6 a7 : Nat), a3 a5 a6 a7 wv ->
 ((decide ((0 : Int) < ((a6 : Nat) : Int))) = true ->
 ∃ a8 : Int, a8 = IntKind.wrap .i64 (((a6 : Nat) : Int) - 1) /\ (0 <= (a8 : Int) /\ (a8 : Int) < (a6 : Nat)) /\ ptrS a5 fun ad => ∃ a9, Loads P 3 (ad.add (a8.toNat * 1)) (.int .i64 a9) wv /\ ((decide ((a9 : Int) = 0)) = true ->
 ∃ aa : Int, aa = IntKind.wrap .i64 (((a6 : Nat) : Int) - 1) /\ (0 <= (aa : Int) /\ (aa : Int) <= (a7 : Nat)) /\ a3 (sub a5 0 a7 1) (aa.toNat - 0) (a7 - 0) wv /\ mu (sub a5 0 a7 1) (aa.toNat - 0) (a7 - 0) wv < mu a5 a6 a7 wv) /\
 ((decide ((a9 : Int) = 0)) = false ->
 R (.slice a5 a6 a7) wv)) /\
 ((decide ((0 : Int) < ((a6 : Nat) : Int))) = false ->
 (false = true ->
 ∃ ab : Int, ab = IntKind.wrap .i64 (((a6 : Nat) : Int) - 1) /\ (0 <= (ab : Int) /\ (ab : Int) <= (a7 : Nat)) /\ a3 (sub a5 0 a7 1) (ab.toNat - 0) (a7 - 0) wv /\ mu (sub a5 0 a7 1) (ab.toNat - 0) (a7 - 0) wv < mu a5 a6 a7 wv) /\
 (false = false ->
 R (.slice a5 a6 a7) wv))
theorem impl_trim_ret {a : Option Addr} {a0 a1 : Nat} (h : impl_trim a a0 a1 w R) : Ret P 227 [.slice a a0 a1] w R := Ret.of_fsem Tryz.func227 rfl (Eq.mp (show _ = fsem P Tryz.f227 (fun k => cond (Nat.beq k 2) [(0, .one .slice)] ([])) _ R w from by kernel_rfl) h)
def impl_natOf (n : Int) (w : World) (R : Value -> World -> Prop) : Prop :=
 ∀ r wv, New w (.cells ⟨[]⟩ 3 (0, 0)) r wv ->
 ∃ (a0 : Int -> Option Addr -> Nat -> Nat -> World -> Prop) (mu : Int -> Option Addr -> Nat -> Nat -> World -> Nat), a0 n (some ⟨r, 0, none⟩) 0 0 wv /\
 ∀ (a1 : Fr) (a2 : World) (n_1 : Int) (a3 : Option Addr) (a4 a5 : Nat), a0 n_1 a3 a4 a5 a2 ->
 ((decide ((0 : Int) < n_1)) = true ->
 (1000000000 : Int) ≠ 0 /\ ∃ t9 : Int, t9 = Int.tmod n_1 1000000000 /\ ∃ a6 : Int, a6 = IntKind.wrap .i64 t9 /\ ∀ a7 a8, New a2 (.cells ⟨[.int .i64 a6]⟩ 3 (0, 0)) a7 a8 ->
 ∃ a9 aa ab ac, Appends P [22, 22] [.slice a3 a4 a5, (.slice (some ⟨a7, 0, none⟩) 1 1)] (.slice a9 aa ab) a8 ac /\
 (1000000000 : Int) ≠ 0 /\ ∃ ae : Int, ae = IntKind.wrap .u64 (Int.tdiv n_1 1000000000) /\ a0 ae a9 aa ab ac /\ mu ae a9 aa ab ac < mu n_1 a3 a4 a5 a2) /\
 ((decide ((0 : Int) < n_1)) = false ->
 R (.slice a3 a4 a5) a2)
theorem impl_natOf_ret {n : Int} (h : impl_natOf n w R) : Ret P 228 [.int .u64 n] w R := Ret.of_fsem Tryz.func228 rfl (Eq.mp (show _ = fsem P Tryz.f228 (fun k => cond (Nat.beq k 3) [(0, .one (.int .u64)), (3, .one .slice)] ([])) _ R w from by kernel_rfl) h)
def spec_MoneyAdd (m0 : ByteArray) (m1 : Bool) (a0 : Option Addr) (a1 a2 : Nat) (n0 : ByteArray) (n1 : Bool) (a3 : Option Addr) (a4 a5 : Nat) (w : World) (R : Value -> World -> Prop) : Prop :=
 ∀ r wv, New w (.cells ⟨[.string m0, .bool m1, .slice a0 a1 a2]⟩ 33 (0, 0)) r wv ->
 ∀ a6 a7, New wv (.cells ⟨[.string n0, .bool n1, .slice a3 a4 a5]⟩ 33 (0, 0)) a6 a7 ->
 ∀ a8 a9, New a7 (.cells ⟨[.string ByteArray.empty, .bool false, .slice none 0 0]⟩ 33 (0, 0)) a8 a9 ->
 ∃ aa ab ac ae af, Loads P 33 ⟨r, 0, none⟩ (.agg #[.string aa, .bool ab, .slice ac ae af]) a9 /\ ∃ ag ah ai aj ak, Loads P 33 ⟨a6, 0, none⟩ (.agg #[.string ag, .bool ah, .slice ai aj ak]) a9 /\ Calls P 140 ⟨[.agg #[.string aa, .bool ab, .slice ac ae af], .agg #[.string ag, .bool ah, .slice ai aj ak]]⟩ a9 fun e al =>
 ∃ t8, e = .returned (.bool t8) /\
 ((!t8) = true ->
 ∃ wv_4, Stores P 33 ⟨a8, 0, none⟩ (.agg #[.string ByteArray.empty, .bool false, .slice none 0 0]) al wv_4 /\
 ∃ r0 r1 am an ao, Loads P 33 ⟨a8, 0, none⟩ (.agg #[.string r0, .bool r1, .slice am an ao]) wv_4 /\ R (.tuple #[.agg #[.string r0, .bool r1, .slice am an ao], .bool false]) wv_4) /\
 ((!t8) = false ->
 ∃ ap, (∀ wv_5, Ext al.drew wv_5 -> Loads P 9 ((⟨r, 0, none⟩ : Addr).add 0) (.string ap) wv_5) /\ ∃ aq ar au av, (∀ wv_6, Ext al.drew wv_6 -> Loads P 31 ((⟨r, 0, none⟩ : Addr).add 1) (.agg #[.bool aq, .slice ar au av]) wv_6) /\ ∃ aw ax ay az, (∀ wv_7, Ext al.drew wv_7 -> Loads P 31 ((⟨a6, 0, none⟩ : Addr).add 1) (.agg #[.bool aw, .slice ax ay az]) wv_7) /\ Calls P 112 ⟨[.agg #[.bool aq, .slice ar au av], .agg #[.bool aw, .slice ax ay az]]⟩ al.drew fun b0 b1 =>
 ∃ b2 b3 b4 b5, b0 = .returned (.agg #[.bool b2, .slice b3 b4 b5]) /\
 Ext al.drew b1 /\ Calls P 132 ⟨[.string ap, .agg #[.bool b2, .slice b3 b4 b5]]⟩ b1 fun b6 b7 =>
 ∃ b8 b9 ba bb bc bd, b6 = .returned (.tuple #[.agg #[.string b8, .bool b9, .slice ba bb bc], .bool bd]) /\
 ∃ wv_10, Stores P 33 ⟨a8, 0, none⟩ (.agg #[.string b8, .bool b9, .slice ba bb bc]) b7 wv_10 /\
 ∃ r0_1 r1_1 be bf bg, Loads P 33 ⟨a8, 0, none⟩ (.agg #[.string r0_1, .bool r1_1, .slice be bf bg]) wv_10 /\ R (.tuple #[.agg #[.string r0_1, .bool r1_1, .slice be bf bg], .bool bd]) wv_10)
theorem spec_MoneyAdd_ret {m0 : ByteArray} {m1 : Bool} {a : Option Addr} {a0 a1 : Nat} {n0 : ByteArray} {n1 : Bool} {a2 : Option Addr} {a3 a4 : Nat} (h : spec_MoneyAdd m0 m1 a a0 a1 n0 n1 a2 a3 a4 w R) : Ret P 229 [.agg #[.string m0, .bool m1, .slice a a0 a1], .agg #[.string n0, .bool n1, .slice a2 a3 a4]] w R := Ret.of_fsem Tryz.func229 rfl (Eq.mp (show _ = fsem P Tryz.f229 (fun k => []) _ R w from by kernel_rfl) h)
def spec_MoneySub (m0 : ByteArray) (m1 : Bool) (a0 : Option Addr) (a1 a2 : Nat) (n0 : ByteArray) (n1 : Bool) (a3 : Option Addr) (a4 a5 : Nat) (w : World) (R : Value -> World -> Prop) : Prop :=
 ∀ r wv, New w (.cells ⟨[.string m0, .bool m1, .slice a0 a1 a2]⟩ 33 (0, 0)) r wv ->
 ∀ a6 a7, New wv (.cells ⟨[.string n0, .bool n1, .slice a3 a4 a5]⟩ 33 (0, 0)) a6 a7 ->
 ∀ a8 a9, New a7 (.cells ⟨[.string ByteArray.empty, .bool false, .slice none 0 0]⟩ 33 (0, 0)) a8 a9 ->
 ∃ aa ab ac ae af, Loads P 33 ⟨r, 0, none⟩ (.agg #[.string aa, .bool ab, .slice ac ae af]) a9 /\ ∃ ag ah ai aj ak, Loads P 33 ⟨a6, 0, none⟩ (.agg #[.string ag, .bool ah, .slice ai aj ak]) a9 /\ Calls P 140 ⟨[.agg #[.string aa, .bool ab, .slice ac ae af], .agg #[.string ag, .bool ah, .slice ai aj ak]]⟩ a9 fun e al =>
 ∃ t8, e = .returned (.bool t8) /\
 ((!t8) = true ->
 ∃ wv_4, Stores P 33 ⟨a8, 0, none⟩ (.agg #[.string ByteArray.empty, .bool false, .slice none 0 0]) al wv_4 /\
 ∃ r0 r1 am an ao, Loads P 33 ⟨a8, 0, none⟩ (.agg #[.string r0, .bool r1, .slice am an ao]) wv_4 /\ R (.tuple #[.agg #[.string r0, .bool r1, .slice am an ao], .bool false]) wv_4) /\
 ((!t8) = false ->
 ∃ ap, (∀ wv_5, Ext al.drew wv_5 -> Loads P 9 ((⟨r, 0, none⟩ : Addr).add 0) (.string ap) wv_5) /\ ∃ aq ar au av, (∀ wv_6, Ext al.drew wv_6 -> Loads P 31 ((⟨r, 0, none⟩ : Addr).add 1) (.agg #[.bool aq, .slice ar au av]) wv_6) /\ ∃ aw ax ay az, (∀ wv_7, Ext al.drew wv_7 -> Loads P 31 ((⟨a6, 0, none⟩ : Addr).add 1) (.agg #[.bool aw, .slice ax ay az]) wv_7) /\ Calls P 154 ⟨[.agg #[.bool aq, .slice ar au av], .agg #[.bool aw, .slice ax ay az]]⟩ al.drew fun b0 b1 =>
 ∃ b2 b3 b4 b5, b0 = .returned (.agg #[.bool b2, .slice b3 b4 b5]) /\
 Ext al.drew b1 /\ Calls P 132 ⟨[.string ap, .agg #[.bool b2, .slice b3 b4 b5]]⟩ b1 fun b6 b7 =>
 ∃ b8 b9 ba bb bc bd, b6 = .returned (.tuple #[.agg #[.string b8, .bool b9, .slice ba bb bc], .bool bd]) /\
 ∃ wv_10, Stores P 33 ⟨a8, 0, none⟩ (.agg #[.string b8, .bool b9, .slice ba bb bc]) b7 wv_10 /\
 ∃ r0_1 r1_1 be bf bg, Loads P 33 ⟨a8, 0, none⟩ (.agg #[.string r0_1, .bool r1_1, .slice be bf bg]) wv_10 /\ R (.tuple #[.agg #[.string r0_1, .bool r1_1, .slice be bf bg], .bool bd]) wv_10)
theorem spec_MoneySub_ret {m0 : ByteArray} {m1 : Bool} {a : Option Addr} {a0 a1 : Nat} {n0 : ByteArray} {n1 : Bool} {a2 : Option Addr} {a3 a4 : Nat} (h : spec_MoneySub m0 m1 a a0 a1 n0 n1 a2 a3 a4 w R) : Ret P 230 [.agg #[.string m0, .bool m1, .slice a a0 a1], .agg #[.string n0, .bool n1, .slice a2 a3 a4]] w R := Ret.of_fsem Tryz.func230 rfl (Eq.mp (show _ = fsem P Tryz.f230 (fun k => []) _ R w from by kernel_rfl) h)
def impl_NextRow_j1 (a0 a1 : Nat) (a2 a3 : Nat) (a4 : World) (R : Value -> World -> Prop) : Prop :=
 ∃ a5 a6 a7 a8 a9, Loads P 33 ⟨a3, 0, none⟩ (.agg #[.string a5, .bool a6, .slice a7 a8 a9]) a4 /\ ∃ aa ab ac ae af, Loads P 33 ⟨a0, 0, none⟩ (.agg #[.string aa, .bool ab, .slice ac ae af]) a4 /\ Calls P 276 ⟨[.agg #[.string a5, .bool a6, .slice a7 a8 a9], .agg #[.string aa, .bool ab, .slice ac ae af]]⟩ a4 fun ag ah =>
 ∃ ai aj ak al am an, ag = .returned (.tuple #[.agg #[.string ai, .bool aj, .slice ak al am], .bool an]) /\
 ∀ ao ap, New ah (.cells ⟨[.string ByteArray.empty, .bool false, .slice none 0 0]⟩ 33 (0, 0)) ao ap ->
 ∃ wv_20, Stores P 33 ⟨ao, 0, none⟩ (.agg #[.string ai, .bool aj, .slice ak al am]) ap wv_20 /\
 ((!an) = true ->
 ∃ wv_21, Stores P 172 ⟨a1, 0, none⟩ (.agg #[.string ByteArray.empty, .bool false, .slice none 0 0, .string ByteArray.empty, .bool false, .slice none 0 0, .string ByteArray.empty, .bool false, .slice none 0 0]) wv_20 wv_21 /\
 ∃ r0_4 r1_3 aq ar au r3_3 r4_3 av aw ax r6_3 r7_3 ay az b0, Loads P 172 ⟨a1, 0, none⟩ (.agg #[.string r0_4, .bool r1_3, .slice aq ar au, .string r3_3, .bool r4_3, .slice av aw ax, .string r6_3, .bool r7_3, .slice ay az b0]) wv_21 /\ R (.tuple #[.agg #[.string r0_4, .bool r1_3, .slice aq ar au, .string r3_3, .bool r4_3, .slice av aw ax, .string r6_3, .bool r7_3, .slice ay az b0], .bool false]) wv_21) /\
 ((!an) = false ->
 ∃ b1 b2 b3 b4 b5, (∀ wv_22, Ext wv_20.drew wv_22 -> Loads P 33 ⟨a2, 0, none⟩ (.agg #[.string b1, .bool b2, .slice b3 b4 b5]) wv_22) /\ ∃ b6 b7 b8 b9 ba, (∀ wv_23, Ext wv_20.drew wv_23 -> Loads P 33 ⟨a0, 0, none⟩ (.agg #[.string b6, .bool b7, .slice b8 b9 ba]) wv_23) /\ Calls P 145 ⟨[.agg #[.string b6, .bool b7, .slice b8 b9 ba]]⟩ wv_20.drew fun bb bc =>
 ∃ bd be bf bg bh, bb = .returned (.agg #[.string bd, .bool be, .slice bf bg bh]) /\
 Ext wv_20.drew bc /\ ∃ bi bj bk bl bm, (∀ wv_25, Ext wv_20.drew wv_25 -> Loads P 33 ⟨ao, 0, none⟩ (.agg #[.string bi, .bool bj, .slice bk bl bm]) wv_25) /\ ∃ wv_26, Stores P 172 ⟨a1, 0, none⟩ (.agg #[.string b1, .bool b2, .slice b3 b4 b5, .string bd, .bool be, .slice bf bg bh, .string bi, .bool bj, .slice bk bl bm]) bc wv_26 /\
 ∃ r0_5 r1_4 bn bo bp r3_4 r4_4 bq br bs r6_4 r7_4 bt bu bv, Loads P 172 ⟨a1, 0, none⟩ (.agg #[.string r0_5, .bool r1_4, .slice bn bo bp, .string r3_4, .bool r4_4, .slice bq br bs, .string r6_4, .bool r7_4, .slice bt bu bv]) wv_26 /\ R (.tuple #[.agg #[.string r0_5, .bool r1_4, .slice bn bo bp, .string r3_4, .bool r4_4, .slice bq br bs, .string r6_4, .bool r7_4, .slice bt bu bv], .bool true]) wv_26)
def impl_NextRow_j0 (mode : Int) (r a0 : Nat) (a1 a2 : Nat) (W : World) (R : Value -> World -> Prop) : Prop :=
 ∃ a3 a4 a5 a6 a7, Loads P 33 ⟨r, 0, none⟩ (.agg #[.string a3, .bool a4, .slice a5 a6 a7]) W /\ ∃ a8 a9 aa ab ac, Loads P 63 ⟨a0, 0, none⟩ (.agg #[.bool a8, .slice a9 aa ab, .int .i64 ac]) W /\ Calls P 122 ⟨[.agg #[.string a3, .bool a4, .slice a5 a6 a7], .agg #[.bool a8, .slice a9 aa ab, .int .i64 ac], .int .i64 mode]⟩ W fun ae af =>
 ∃ ag ah ai aj ak al am an ao ap aq ar au, ae = .returned (.tuple #[.agg #[.string ag, .bool ah, .slice ai aj ak], .agg #[.bool al, .slice am an ao, .slice ap aq ar], .bool au]) /\
 ∀ av aw, New af (.cells ⟨[.string ByteArray.empty, .bool false, .slice none 0 0]⟩ 33 (0, 0)) av aw ->
 ∀ ax ay, New aw (.cells ⟨[.bool false, .slice none 0 0, .slice none 0 0]⟩ 53 (0, 0)) ax ay ->
 ∃ wv_9, Stores P 33 ⟨av, 0, none⟩ (.agg #[.string ag, .bool ah, .slice ai aj ak]) ay wv_9 /\
 ∃ wv_10, Stores P 53 ⟨ax, 0, none⟩ (.agg #[.bool al, .slice am an ao, .slice ap aq ar]) wv_9 wv_10 /\
 ((!au) = true ->
 ∃ wv_11, Stores P 172 ⟨a2, 0, none⟩ (.agg #[.string ByteArray.empty, .bool false, .slice none 0 0, .string ByteArray.empty, .bool false, .slice none 0 0, .string ByteArray.empty, .bool false, .slice none 0 0]) wv_10 wv_11 /\
 ∃ r0_2 r1_1 az b0 b1 r3_1 r4_1 b2 b3 b4 r6_1 r7_1 b5 b6 b7, Loads P 172 ⟨a2, 0, none⟩ (.agg #[.string r0_2, .bool r1_1, .slice az b0 b1, .string r3_1, .bool r4_1, .slice b2 b3 b4, .string r6_1, .bool r7_1, .slice b5 b6 b7]) wv_11 /\ R (.tuple #[.agg #[.string r0_2, .bool r1_1, .slice az b0 b1, .string r3_1, .bool r4_1, .slice b2 b3 b4, .string r6_1, .bool r7_1, .slice b5 b6 b7], .bool false]) wv_11) /\
 ((!au) = false ->
 ∃ b8 b9 ba bb bc, Loads P 33 ⟨r, 0, none⟩ (.agg #[.string b8, .bool b9, .slice ba bb bc]) wv_10 /\ ∃ bd be bf bg bh, Loads P 33 ⟨av, 0, none⟩ (.agg #[.string bd, .bool be, .slice bf bg bh]) wv_10 /\ Calls P 275 ⟨[.agg #[.string b8, .bool b9, .slice ba bb bc], .agg #[.string bd, .bool be, .slice bf bg bh]]⟩ wv_10 fun bi bj =>
 ∃ bk bl bm bn bo bp, bi = .returned (.tuple #[.agg #[.string bk, .bool bl, .slice bm bn bo], .bool bp]) /\
 ∀ bq br, New bj (.cells ⟨[.string ByteArray.empty, .bool false, .slice none 0 0]⟩ 33 (0, 0)) bq br ->
 ∃ wv_14, Stores P 33 ⟨bq, 0, none⟩ (.agg #[.string bk, .bool bl, .slice bm bn bo]) br wv_14 /\
 ((!bp) = true ->
 ∃ wv_15, Stores P 172 ⟨a2, 0, none⟩ (.agg #[.string ByteArray.empty, .bool false, .slice none 0 0, .string ByteArray.empty, .bool false, .slice none 0 0, .string ByteArray.empty, .bool false, .slice none 0 0]) wv_14 wv_15 /\
 ∃ r0_3 r1_2 bs bt bu r3_2 r4_2 bv bw bx r6_2 r7_2 bz c0 c1, Loads P 172 ⟨a2, 0, none⟩ (.agg #[.string r0_3, .bool r1_2, .slice bs bt bu, .string r3_2, .bool r4_2, .slice bv bw bx, .string r6_2, .bool r7_2, .slice bz c0 c1]) wv_15 /\ R (.tuple #[.agg #[.string r0_3, .bool r1_2, .slice bs bt bu, .string r3_2, .bool r4_2, .slice bv bw bx, .string r6_2, .bool r7_2, .slice bz c0 c1], .bool false]) wv_15) /\
 ((!bp) = false ->
 ∃ c2 c3 c4 c5, Loads P 31 ((⟨bq, 0, none⟩ : Addr).add 1) (.agg #[.bool c2, .slice c3 c4 c5]) wv_14 /\ ∃ c6 c7 c8 c9, Loads P 31 ((⟨a1, 0, none⟩ : Addr).add 1) (.agg #[.bool c6, .slice c7 c8 c9]) wv_14 /\ Calls P 135 ⟨[.agg #[.bool c2, .slice c3 c4 c5], .agg #[.bool c6, .slice c7 c8 c9]]⟩ wv_14 fun ca cb =>
 ∃ cc, ca = .returned (.int .i64 cc) /\
 ((decide ((cc : Int) < 0)) = true ->
 ∃ cd ce cf cg ch, Loads P 33 ⟨bq, 0, none⟩ (.agg #[.string cd, .bool ce, .slice cf cg ch]) cb /\ ∃ wv_17, Stores P 33 ⟨a1, 0, none⟩ (.agg #[.string cd, .bool ce, .slice cf cg ch]) cb wv_17 /\
 impl_NextRow_j1 a1 a2 av bq wv_17 R) /\
 ((decide ((cc : Int) < 0)) = false ->
 impl_NextRow_j1 a1 a2 av bq cb R)))
abbrev impl_NextRow_z0 (q : Nat) (x : World) (R : Value -> World -> Prop) : Prop :=
 ∃ y, Stores P 172 ⟨q, 0, none⟩ (.agg #[.string ByteArray.empty, .bool false, .slice none 0 0, .string ByteArray.empty, .bool false, .slice none 0 0, .string ByteArray.empty, .bool false, .slice none 0 0]) x y /\ ∃ r0_1 r1 au av aw r3 r4 ax ay az r6 r7 b0 b1 b2, Loads P 172 ⟨q, 0, none⟩ (.agg #[.string r0_1, .bool r1, .slice au av aw, .string r3, .bool r4, .slice ax ay az, .string r6, .bool r7, .slice b0 b1 b2]) y /\ R (.tuple #[.agg #[.string r0_1, .bool r1, .slice au av aw, .string r3, .bool r4, .slice ax ay az, .string r6, .bool r7, .slice b0 b1 b2], .bool false]) y
def impl_NextRow (left0 : ByteArray) (left1 : Bool) (a0 : Option Addr) (a1 a2 : Nat) (r0 : Bool) (a3 : Option Addr) (a4 a5 : Nat) (r2 : Int) (pay0 : ByteArray) (pay1 : Bool) (a6 : Option Addr) (a7 a8 : Nat) (mode : Int) (w : World) (R : Value -> World -> Prop) : Prop :=
 ∀ r wv, New w (.cells ⟨[.string left0, .bool left1, .slice a0 a1 a2]⟩ 33 (0, 0)) r wv ->
 ∀ a9 aa, New wv (.cells ⟨[.bool r0, .slice a3 a4 a5, .int .i64 r2]⟩ 63 (0, 0)) a9 aa ->
 ∀ ab ac, New aa (.cells ⟨[.string pay0, .bool pay1, .slice a6 a7 a8]⟩ 33 (0, 0)) ab ac ->
 ∀ ae af, New ac (.cells ⟨[.string ByteArray.empty, .bool false, .slice none 0 0, .string ByteArray.empty, .bool false, .slice none 0 0, .string ByteArray.empty, .bool false, .slice none 0 0]⟩ 172 (0, 0)) ae af ->
 ∃ ag ah ai aj ak, Loads P 33 ⟨r, 0, none⟩ (.agg #[.string ag, .bool ah, .slice ai aj ak]) af /\ ∃ al am an ao ap, Loads P 33 ⟨ab, 0, none⟩ (.agg #[.string al, .bool am, .slice an ao ap]) af /\ Calls P 143 ⟨[.agg #[.string ag, .bool ah, .slice ai aj ak], .agg #[.string al, .bool am, .slice an ao ap]]⟩ af fun e aq =>
 ∃ ar, e = .returned (.bool ar) /\
 ((!ar) = true ->
 (true = true ->
 (true = true ->
 impl_NextRow_z0 ae aq R) /\
 (true = false ->
 impl_NextRow_j0 mode r a9 ab ae aq R)) /\
 (true = false ->
 ∃ b3, Loads P 4 (((⟨ab, 0, none⟩ : Addr).add 1).add 0) (.bool b3) aq /\ (b3 = true ->
 impl_NextRow_z0 ae aq R) /\
 (b3 = false ->
 impl_NextRow_j0 mode r a9 ab ae aq R))) /\
 ((!ar) = false ->
 ∃ bd, Loads P 4 (((⟨r, 0, none⟩ : Addr).add 1).add 0) (.bool bd) aq /\ (bd = true ->
 (true = true ->
 impl_NextRow_z0 ae aq R) /\
 (true = false ->
 impl_NextRow_j0 mode r a9 ab ae aq R)) /\
 (bd = false ->
 ∃ bn, Loads P 4 (((⟨ab, 0, none⟩ : Addr).add 1).add 0) (.bool bn) aq /\ (bn = true ->
 impl_NextRow_z0 ae aq R) /\
 (bn = false ->
 impl_NextRow_j0 mode r a9 ab ae aq R)))
theorem impl_NextRow_ret {a : ByteArray} {a0 : Bool} {a1 : Option Addr} {a2 a3 : Nat} {r0 : Bool} {a4 : Option Addr} {a5 a6 : Nat} {r2 : Int} {a7 : ByteArray} {a8 : Bool} {a9 : Option Addr} {b b0 : Nat} {b1 : Int} (h : impl_NextRow a a0 a1 a2 a3 r0 a4 a5 a6 r2 a7 a8 a9 b b0 b1 w R) : Ret P 231 [.agg #[.string a, .bool a0, .slice a1 a2 a3], .agg #[.bool r0, .slice a4 a5 a6, .int .i64 r2], .agg #[.string a7, .bool a8, .slice a9 b b0], .int .i64 b1] w R := Ret.of_fsem Tryz.func231 rfl (Eq.mp (show _ = fsem P Tryz.f231 (fun k => []) _ R w from by kernel_rfl) h)
def spec_l06Round_j0 (r a0 : Nat) (a1 : Option Addr) (a2 a3 : Nat) (W : World) (R : Value -> World -> Prop) : Prop :=
 ∃ a4, Loads P 4 (((⟨r, 0, none⟩ : Addr).add 0).add 0) (.bool a4) W /\ Calls P 113 ⟨[.bool a4, .slice a1 a2 a3]⟩ W fun a5 a6 =>
 ∃ a7 a8 a9 aa, a5 = .returned (.agg #[.bool a7, .slice a8 a9 aa]) /\
 ∃ wv_7, Stores P 31 ⟨a0, 0, none⟩ (.agg #[.bool a7, .slice a8 a9 aa]) a6 wv_7 /\
 ∃ r0_1 ab ac ae, Loads P 31 ⟨a0, 0, none⟩ (.agg #[.bool r0_1, .slice ab ac ae]) wv_7 /\ R (.agg #[.bool r0_1, .slice ab ac ae]) wv_7
def spec_l06Round (r0 : Bool) (a0 : Option Addr) (a1 a2 : Nat) (a3 : Option Addr) (a4 a5 : Nat) (m : Int) (w : World) (R : Value -> World -> Prop) : Prop :=
 ∀ r wv, New w (.cells ⟨[.bool r0, .slice a0 a1 a2, .slice a3 a4 a5]⟩ 53 (0, 0)) r wv ->
 ∀ a6 a7, New wv (.cells ⟨[.bool false, .slice none 0 0]⟩ 31 (0, 0)) a6 a7 ->
 ∃ a8 a9 aa, Loads P 22 (((⟨r, 0, none⟩ : Addr).add 0).add 1) (.slice a8 a9 aa) a7 /\ ∃ ab ac ae, Loads P 22 ((⟨r, 0, none⟩ : Addr).add 2) (.slice ab ac ae) a7 /\ Calls P 224 ⟨[.slice a8 a9 aa, .slice ab ac ae]⟩ a7 fun e af =>
 ∃ ag ah ai aj ak al, e = .returned (.tuple #[.slice ag ah ai, .slice aj ak al]) /\
 ((decide ((0 : Int) < ((ak : Nat) : Int))) = true ->
 ∃ am, Loads P 4 (((⟨r, 0, none⟩ : Addr).add 0).add 0) (.bool am) af /\ ∃ an ao ap, Loads P 22 ((⟨r, 0, none⟩ : Addr).add 2) (.slice an ao ap) af /\ Calls P 277 ⟨[.bool am, .slice ag ah ai, .slice aj ak al, .slice an ao ap, .int .i64 m]⟩ af fun aq ar =>
 ∃ au, aq = .returned (.bool au) /\
 (au = true ->
 ∀ av aw, New ar (.cells ⟨[.int .i64 1]⟩ 3 (0, 0)) av aw ->
 Calls P 244 ⟨[.slice ag ah ai, (.slice (some ⟨av, 0, none⟩) 1 1)]⟩ aw fun ax ay =>
 ∃ az b0 b1, ax = .returned (.slice az b0 b1) /\
 spec_l06Round_j0 r a6 az b0 b1 ay R) /\
 (au = false ->
 spec_l06Round_j0 r a6 ag ah ai ar R)) /\
 ((decide ((0 : Int) < ((ak : Nat) : Int))) = false ->
 (false = true ->
 ∀ b2 b3, New af (.cells ⟨[.int .i64 1]⟩ 3 (0, 0)) b2 b3 ->
 Calls P 244 ⟨[.slice ag ah ai, (.slice (some ⟨b2, 0, none⟩) 1 1)]⟩ b3 fun b4 b5 =>
 ∃ b6 b7 b8, b4 = .returned (.slice b6 b7 b8) /\
 spec_l06Round_j0 r a6 b6 b7 b8 b5 R) /\
 (false = false ->
 spec_l06Round_j0 r a6 ag ah ai af R))
theorem spec_l06Round_ret {r0 : Bool} {a : Option Addr} {a0 a1 : Nat} {a2 : Option Addr} {a3 a4 : Nat} {m : Int} (h : spec_l06Round r0 a a0 a1 a2 a3 a4 m w R) : Ret P 233 [.agg #[.bool r0, .slice a a0 a1, .slice a2 a3 a4], .int .i64 m] w R := Ret.of_fsem Tryz.func233 rfl (Eq.mp (show _ = fsem P Tryz.f233 (fun k => []) _ R w from by kernel_rfl) h)
def spec_RatRest (r0 : Bool) (a0 : Option Addr) (a1 a2 : Nat) (a3 : Option Addr) (a4 a5 : Nat) (m : Int) (w : World) (R : Value -> World -> Prop) : Prop :=
 ∀ r wv, New w (.cells ⟨[.bool r0, .slice a0 a1 a2, .slice a3 a4 a5]⟩ 53 (0, 0)) r wv ->
 ∀ a6 a7, New wv (.cells ⟨[.bool false, .slice none 0 0]⟩ 31 (0, 0)) a6 a7 ->
 ∀ a8 a9, New a7 (.cells ⟨[.bool false, .slice none 0 0, .slice none 0 0]⟩ 53 (0, 0)) a8 a9 ->
 ∃ aa ab ac ae af ag ah, Loads P 53 ⟨r, 0, none⟩ (.agg #[.bool aa, .slice ab ac ae, .slice af ag ah]) a9 /\ Calls P 148 ⟨[.agg #[.bool aa, .slice ab ac ae, .slice af ag ah], .int .i64 m]⟩ a9 fun e ai =>
 ∃ aj ak al am an, e = .returned (.tuple #[.agg #[.bool aj, .slice ak al am], .bool an]) /\
 ∀ ao ap, New ai (.cells ⟨[.bool false, .slice none 0 0]⟩ 31 (0, 0)) ao ap ->
 ∃ wv_5, Stores P 31 ⟨ao, 0, none⟩ (.agg #[.bool aj, .slice ak al am]) ap wv_5 /\
 ∃ aq ar au av, Loads P 31 ⟨ao, 0, none⟩ (.agg #[.bool aq, .slice ar au av]) wv_5 /\ Calls P 264 ⟨[.agg #[.bool aq, .slice ar au av]]⟩ wv_5 fun aw ax =>
 ∃ ay az b0 b1 b2 b3 b4 b5, aw = .returned (.tuple #[.agg #[.bool ay, .slice az b0 b1, .slice b2 b3 b4], .bool b5]) /\
 ∀ b6 b7, New ax (.cells ⟨[.bool false, .slice none 0 0, .slice none 0 0]⟩ 53 (0, 0)) b6 b7 ->
 ∃ wv_8, Stores P 53 ⟨b6, 0, none⟩ (.agg #[.bool ay, .slice az b0 b1, .slice b2 b3 b4]) b7 wv_8 /\
 ∃ b8 b9 ba bb bc bd be, Loads P 53 ⟨r, 0, none⟩ (.agg #[.bool b8, .slice b9 ba bb, .slice bc bd be]) wv_8 /\ ∃ bf bg bh bi bj bk bl, Loads P 53 ⟨b6, 0, none⟩ (.agg #[.bool bf, .slice bg bh bi, .slice bj bk bl]) wv_8 /\ Calls P 278 ⟨[.agg #[.bool b8, .slice b9 ba bb, .slice bc bd be], .agg #[.bool bf, .slice bg bh bi, .slice bj bk bl]]⟩ wv_8 fun bm bn =>
 ∃ bo bp bq br bs bt bu bv, bm = .returned (.tuple #[.agg #[.bool bo, .slice bp bq br, .slice bs bt bu], .bool bv]) /\
 ∀ bw bx, New bn (.cells ⟨[.bool false, .slice none 0 0, .slice none 0 0]⟩ 53 (0, 0)) bw bx ->
 ∃ wv_11, Stores P 53 ⟨bw, 0, none⟩ (.agg #[.bool bo, .slice bp bq br, .slice bs bt bu]) bx wv_11 /\
 ((!an) = true ->
 (true = true ->
 (true = true ->
 ∃ wv_12, Stores P 31 ⟨a6, 0, none⟩ (.agg #[.bool false, .slice none 0 0]) wv_11 wv_12 /\
 ∃ wv_13, Stores P 53 ⟨a8, 0, none⟩ (.agg #[.bool false, .slice none 0 0, .slice none 0 0]) wv_12 wv_13 /\
 ∃ r0_1 bz c0 c1, Loads P 31 ⟨a6, 0, none⟩ (.agg #[.bool r0_1, .slice bz c0 c1]) wv_13 /\ ∃ r0_2 c2 c3 c4 c5 c6 c7, Loads P 53 ⟨a8, 0, none⟩ (.agg #[.bool r0_2, .slice c2 c3 c4, .slice c5 c6 c7]) wv_13 /\ R (.tuple #[.agg #[.bool r0_1, .slice bz c0 c1], .agg #[.bool r0_2, .slice c2 c3 c4, .slice c5 c6 c7], .bool false]) wv_13) /\
 (true = false ->
 ∃ blks : List Nat, ∃ c8 c9 ca cb, (∀ wv_14, EX blks wv_11.drew wv_14 -> Loads P 31 ⟨ao, 0, none⟩ (.agg #[.bool c8, .slice c9 ca cb]) wv_14) /\ ∃ cc cd ce cf cg ch ci, (∀ wv_15, EX blks wv_11.drew wv_15 -> Loads P 53 ⟨bw, 0, none⟩ (.agg #[.bool cc, .slice cd ce cf, .slice cg ch ci]) wv_15) /\ ∃ wv_16, Stores P 31 ⟨a6, 0, none⟩ (.agg #[.bool c8, .slice c9 ca cb]) wv_11.drew wv_16 /\
 EX blks wv_11.drew wv_16 /\ ∃ wv_17, Stores P 53 ⟨a8, 0, none⟩ (.agg #[.bool cc, .slice cd ce cf, .slice cg ch ci]) wv_16 wv_17 /\
 ∃ r0_3 cj ck cl, Loads P 31 ⟨a6, 0, none⟩ (.agg #[.bool r0_3, .slice cj ck cl]) wv_17 /\ ∃ r0_4 cm cn co cp cq cr, Loads P 53 ⟨a8, 0, none⟩ (.agg #[.bool r0_4, .slice cm cn co, .slice cp cq cr]) wv_17 /\ R (.tuple #[.agg #[.bool r0_3, .slice cj ck cl], .agg #[.bool r0_4, .slice cm cn co, .slice cp cq cr], .bool true]) wv_17)) /\
 (true = false ->
 ((!bv) = true ->
 ∃ wv_18, Stores P 31 ⟨a6, 0, none⟩ (.agg #[.bool false, .slice none 0 0]) wv_11 wv_18 /\
 ∃ wv_19, Stores P 53 ⟨a8, 0, none⟩ (.agg #[.bool false, .slice none 0 0, .slice none 0 0]) wv_18 wv_19 /\
 ∃ r0_5 cs ct cu, Loads P 31 ⟨a6, 0, none⟩ (.agg #[.bool r0_5, .slice cs ct cu]) wv_19 /\ ∃ r0_6 cv cw cx cy cz d0, Loads P 53 ⟨a8, 0, none⟩ (.agg #[.bool r0_6, .slice cv cw cx, .slice cy cz d0]) wv_19 /\ R (.tuple #[.agg #[.bool r0_5, .slice cs ct cu], .agg #[.bool r0_6, .slice cv cw cx, .slice cy cz d0], .bool false]) wv_19) /\
 ((!bv) = false ->
 ∃ blks_1 : List Nat, ∃ d1 d2 d3 d4, (∀ wv_20, EX blks_1 wv_11.drew wv_20 -> Loads P 31 ⟨ao, 0, none⟩ (.agg #[.bool d1, .slice d2 d3 d4]) wv_20) /\ ∃ d5 d6 d7 d8 d9 da db, (∀ wv_21, EX blks_1 wv_11.drew wv_21 -> Loads P 53 ⟨bw, 0, none⟩ (.agg #[.bool d5, .slice d6 d7 d8, .slice d9 da db]) wv_21) /\ ∃ wv_22, Stores P 31 ⟨a6, 0, none⟩ (.agg #[.bool d1, .slice d2 d3 d4]) wv_11.drew wv_22 /\
 EX blks_1 wv_11.drew wv_22 /\ ∃ wv_23, Stores P 53 ⟨a8, 0, none⟩ (.agg #[.bool d5, .slice d6 d7 d8, .slice d9 da db]) wv_22 wv_23 /\
 ∃ r0_7 dc dd de, Loads P 31 ⟨a6, 0, none⟩ (.agg #[.bool r0_7, .slice dc dd de]) wv_23 /\ ∃ r0_8 df dg dh di dj dk, Loads P 53 ⟨a8, 0, none⟩ (.agg #[.bool r0_8, .slice df dg dh, .slice di dj dk]) wv_23 /\ R (.tuple #[.agg #[.bool r0_7, .slice dc dd de], .agg #[.bool r0_8, .slice df dg dh, .slice di dj dk], .bool true]) wv_23))) /\
 ((!an) = false ->
 ((!b5) = true ->
 (true = true ->
 ∃ wv_24, Stores P 31 ⟨a6, 0, none⟩ (.agg #[.bool false, .slice none 0 0]) wv_11 wv_24 /\
 ∃ wv_25, Stores P 53 ⟨a8, 0, none⟩ (.agg #[.bool false, .slice none 0 0, .slice none 0 0]) wv_24 wv_25 /\
 ∃ r0_9 dl dm dn, Loads P 31 ⟨a6, 0, none⟩ (.agg #[.bool r0_9, .slice dl dm dn]) wv_25 /\ ∃ r0_10 dp dq dr ds dt du, Loads P 53 ⟨a8, 0, none⟩ (.agg #[.bool r0_10, .slice dp dq dr, .slice ds dt du]) wv_25 /\ R (.tuple #[.agg #[.bool r0_9, .slice dl dm dn], .agg #[.bool r0_10, .slice dp dq dr, .slice ds dt du], .bool false]) wv_25) /\
 (true = false ->
 ∃ blks_2 : List Nat, ∃ dv dw dx dy, (∀ wv_26, EX blks_2 wv_11.drew wv_26 -> Loads P 31 ⟨ao, 0, none⟩ (.agg #[.bool dv, .slice dw dx dy]) wv_26) /\ ∃ dz e0 e1 e2 e3 e4 e5, (∀ wv_27, EX blks_2 wv_11.drew wv_27 -> Loads P 53 ⟨bw, 0, none⟩ (.agg #[.bool dz, .slice e0 e1 e2, .slice e3 e4 e5]) wv_27) /\ ∃ wv_28, Stores P 31 ⟨a6, 0, none⟩ (.agg #[.bool dv, .slice dw dx dy]) wv_11.drew wv_28 /\
 EX blks_2 wv_11.drew wv_28 /\ ∃ wv_29, Stores P 53 ⟨a8, 0, none⟩ (.agg #[.bool dz, .slice e0 e1 e2, .slice e3 e4 e5]) wv_28 wv_29 /\
 ∃ r0_11 e6 e7 e8, Loads P 31 ⟨a6, 0, none⟩ (.agg #[.bool r0_11, .slice e6 e7 e8]) wv_29 /\ ∃ r0_12 e9 ea eb ec ed ee, Loads P 53 ⟨a8, 0, none⟩ (.agg #[.bool r0_12, .slice e9 ea eb, .slice ec ed ee]) wv_29 /\ R (.tuple #[.agg #[.bool r0_11, .slice e6 e7 e8], .agg #[.bool r0_12, .slice e9 ea eb, .slice ec ed ee], .bool true]) wv_29)) /\
 ((!b5) = false ->
 ((!bv) = true ->
 ∃ wv_30, Stores P 31 ⟨a6, 0, none⟩ (.agg #[.bool false, .slice none 0 0]) wv_11 wv_30 /\
 ∃ wv_31, Stores P 53 ⟨a8, 0, none⟩ (.agg #[.bool false, .slice none 0 0, .slice none 0 0]) wv_30 wv_31 /\
 ∃ r0_13 ef eg eh, Loads P 31 ⟨a6, 0, none⟩ (.agg #[.bool r0_13, .slice ef eg eh]) wv_31 /\ ∃ r0_14 ei ej ek el em en, Loads P 53 ⟨a8, 0, none⟩ (.agg #[.bool r0_14, .slice ei ej ek, .slice el em en]) wv_31 /\ R (.tuple #[.agg #[.bool r0_13, .slice ef eg eh], .agg #[.bool r0_14, .slice ei ej ek, .slice el em en], .bool false]) wv_31) /\
 ((!bv) = false ->
 ∃ blks_3 : List Nat, ∃ eo ep eq er, (∀ wv_32, EX blks_3 wv_11.drew wv_32 -> Loads P 31 ⟨ao, 0, none⟩ (.agg #[.bool eo, .slice ep eq er]) wv_32) /\ ∃ es et eu ev ew ex ey, (∀ wv_33, EX blks_3 wv_11.drew wv_33 -> Loads P 53 ⟨bw, 0, none⟩ (.agg #[.bool es, .slice et eu ev, .slice ew ex ey]) wv_33) /\ ∃ wv_34, Stores P 31 ⟨a6, 0, none⟩ (.agg #[.bool eo, .slice ep eq er]) wv_11.drew wv_34 /\
 EX blks_3 wv_11.drew wv_34 /\ ∃ wv_35, Stores P 53 ⟨a8, 0, none⟩ (.agg #[.bool es, .slice et eu ev, .slice ew ex ey]) wv_34 wv_35 /\
 ∃ r0_15 ez f0 f1, Loads P 31 ⟨a6, 0, none⟩ (.agg #[.bool r0_15, .slice ez f0 f1]) wv_35 /\ ∃ r0_16 f2 f3 f4 f5 f6 f7, Loads P 53 ⟨a8, 0, none⟩ (.agg #[.bool r0_16, .slice f2 f3 f4, .slice f5 f6 f7]) wv_35 /\ R (.tuple #[.agg #[.bool r0_15, .slice ez f0 f1], .agg #[.bool r0_16, .slice f2 f3 f4, .slice f5 f6 f7], .bool true]) wv_35)))
theorem spec_RatRest_ret {r0 : Bool} {a : Option Addr} {a0 a1 : Nat} {a2 : Option Addr} {a3 a4 : Nat} {m : Int} (h : spec_RatRest r0 a a0 a1 a2 a3 a4 m w R) : Ret P 234 [.agg #[.bool r0, .slice a a0 a1, .slice a2 a3 a4], .int .i64 m] w R := Ret.of_fsem Tryz.func234 rfl (Eq.mp (show _ = fsem P Tryz.f234 (fun k => []) _ R w from by kernel_rfl) h)
end Go.Proofs.YtfehpaekbbmkcaaGreatDoor
namespace Go.Proofs.YtfehpaekbbmkcaaGreatDoor
variable {w : World} {R : Value -> World -> Prop}
open Go Go.Proofs.YtfehpaekbbmkcaaGreatDoor.Sx
set_option maxRecDepth 100000
def spec_RatNeg (r0 : Bool) (a0 : Option Addr) (a1 a2 : Nat) (a3 : Option Addr) (a4 a5 : Nat) (w : World) (R : Value -> World -> Prop) : Prop :=
 ∀ r wv, New w (.cells ⟨[.bool r0, .slice a0 a1 a2, .slice a3 a4 a5]⟩ 53 (0, 0)) r wv ->
 ∀ a6 a7, New wv (.cells ⟨[.bool false, .slice none 0 0, .slice none 0 0]⟩ 53 (0, 0)) a6 a7 ->
 ∃ a8 a9 aa ab ac ae af, Loads P 53 ⟨r, 0, none⟩ (.agg #[.bool a8, .slice a9 aa ab, .slice ac ae af]) a7 /\ Calls P 174 ⟨[.agg #[.bool a8, .slice a9 aa ab, .slice ac ae af]]⟩ a7 fun e ag =>
 ∃ t5, e = .returned (.bool t5) /\
 ((!t5) = true ->
 ∃ wv_3, Stores P 53 ⟨a6, 0, none⟩ (.agg #[.bool false, .slice none 0 0, .slice none 0 0]) ag wv_3 /\
 ∃ r0_1 ah ai aj ak al am, Loads P 53 ⟨a6, 0, none⟩ (.agg #[.bool r0_1, .slice ah ai aj, .slice ak al am]) wv_3 /\ R (.tuple #[.agg #[.bool r0_1, .slice ah ai aj, .slice ak al am], .bool false]) wv_3) /\
 ((!t5) = false ->
 ∃ an ao ap aq, (∀ wv_4, Ext ag.drew wv_4 -> Loads P 31 ((⟨r, 0, none⟩ : Addr).add 0) (.agg #[.bool an, .slice ao ap aq]) wv_4) /\ ∀ (ss : List (Option Nat)) (ar : World), Fl [.cells ⟨[]⟩ 3 (0, 0)] [none] ag.drew ss ar ->
 Calls P 237 ⟨[.agg #[.bool an, .slice ao ap aq]]⟩ ar fun au av =>
 ∃ aw ax ay az, au = .returned (.agg #[.bool aw, .slice ax ay az]) /\
 Ext ar av /\ ∃ b0 b1 b2, (∀ wv_7, Ext ag.drew wv_7 -> Loads P 22 ((⟨r, 0, none⟩ : Addr).add 2) (.slice b0 b1 b2) wv_7) /\ ∀ (ss_1 : List (Option Nat)) (b3 : World) (b4 : Nat), Fl [.cells ⟨[]⟩ 3 (0, 0)] ss av ss_1 b3 -> ss_1[0]? = some (some b4) ->
 ∃ b5 b6 b7 b8, Appends P [22, 22] [(.slice (some ⟨b4, 0, none⟩) 0 0), .slice b0 b1 b2] (.slice b5 b6 b7) b3 b8 /\
 ∃ wv_10, Stores P 53 ⟨a6, 0, none⟩ (.agg #[.bool aw, .slice ax ay az, .slice b5 b6 b7]) b8 wv_10 /\
 ∃ r0_2 b9 ba bb bc bd be, Loads P 53 ⟨a6, 0, none⟩ (.agg #[.bool r0_2, .slice b9 ba bb, .slice bc bd be]) wv_10 /\ R (.tuple #[.agg #[.bool r0_2, .slice b9 ba bb, .slice bc bd be], .bool true]) wv_10)
theorem spec_RatNeg_ret {r0 : Bool} {a : Option Addr} {a0 a1 : Nat} {a2 : Option Addr} {a3 a4 : Nat} (h : spec_RatNeg r0 a a0 a1 a2 a3 a4 w R) : Ret P 235 [.agg #[.bool r0, .slice a a0 a1, .slice a2 a3 a4]] w R := Ret.of_fsem Tryz.func235 rfl (Eq.mp (show _ = fsem P Tryz.f235 (fun k => []) _ R w from by kernel_rfl) h)
def spec_IntNeg (x0 : Bool) (a0 : Option Addr) (a1 a2 : Nat) (w : World) (R : Value -> World -> Prop) : Prop :=
 ∀ r wv, New w (.cells ⟨[.bool x0, .slice a0 a1 a2]⟩ 31 (0, 0)) r wv ->
 ∀ a3 a4, New wv (.cells ⟨[.bool false, .slice none 0 0]⟩ 31 (0, 0)) a3 a4 ->
 ∃ a5 a6 a7 a8, Loads P 31 ⟨r, 0, none⟩ (.agg #[.bool a5, .slice a6 a7 a8]) a4 /\ Calls P 151 ⟨[.agg #[.bool a5, .slice a6 a7 a8]]⟩ a4 fun e a9 =>
 ∃ t4, e = .returned (.bool t4) /\
 ((!t4) = true ->
 ∃ wv_3, Stores P 31 ⟨a3, 0, none⟩ (.agg #[.bool false, .slice none 0 0]) a9 wv_3 /\
 ∃ r0 aa ab ac, Loads P 31 ⟨a3, 0, none⟩ (.agg #[.bool r0, .slice aa ab ac]) wv_3 /\ R (.agg #[.bool r0, .slice aa ab ac]) wv_3) /\
 ((!t4) = false ->
 ∃ t8, Loads P 4 ((⟨r, 0, none⟩ : Addr).add 0) (.bool t8) a9 /\ ∃ ae af ag, Loads P 22 ((⟨r, 0, none⟩ : Addr).add 1) (.slice ae af ag) a9 /\ Calls P 113 ⟨[(.bool (!t8)), .slice ae af ag]⟩ a9 fun ah ai =>
 ∃ aj ak al am, ah = .returned (.agg #[.bool aj, .slice ak al am]) /\
 ∃ wv_5, Stores P 31 ⟨a3, 0, none⟩ (.agg #[.bool aj, .slice ak al am]) ai wv_5 /\
 ∃ r0_1 an ao ap, Loads P 31 ⟨a3, 0, none⟩ (.agg #[.bool r0_1, .slice an ao ap]) wv_5 /\ R (.agg #[.bool r0_1, .slice an ao ap]) wv_5)
theorem spec_IntNeg_ret {x0 : Bool} {a : Option Addr} {a0 a1 : Nat} (h : spec_IntNeg x0 a a0 a1 w R) : Ret P 237 [.agg #[.bool x0, .slice a a0 a1]] w R := Ret.of_fsem Tryz.func237 rfl (Eq.mp (show _ = fsem P Tryz.f237 (fun k => []) _ R w from by kernel_rfl) h)
def impl_divStep_j0 (q_1 : Int) (W : World) (R : Value -> World -> Prop) : Prop :=
 R (.int .i64 q_1) W
def impl_divStep_j1 (q_2 : Int) (a0 : World) (R : Value -> World -> Prop) : Prop :=
 R (.int .i64 q_2) a0
def impl_divStep_j2 (q_3 : Int) (a0 : World) (R : Value -> World -> Prop) : Prop :=
 R (.int .i64 q_3) a0
def impl_divStep_j3 (q_4 : Int) (a0 : World) (R : Value -> World -> Prop) : Prop :=
 R (.int .i64 q_4) a0
def impl_divStep (a0 : Option Addr) (a1 a2 : Nat) (a3 : Option Addr) (a4 a5 : Nat) (w : World) (R : Value -> World -> Prop) : Prop :=
 (0 <= (((a4 : Nat) : Int) : Int) /\ (((a4 : Nat) : Int) : Int) < (a1 : Nat)) /\ ptrS a0 fun ad => ∃ a6, (∀ wv, Ext w.drew wv -> Loads P 3 (ad.add (a4 * 1)) (.int .i64 a6) wv) /\ ∃ a7 : Int, a7 = IntKind.wrap .i64 (a6 * 1000000000) /\ ∃ a8 : Int, a8 = IntKind.wrap .i64 (((a4 : Nat) : Int) - 1) /\ (0 <= (a8 : Int) /\ (a8 : Int) < (a1 : Nat)) /\ ptrS a0 fun a9 => ∃ aa, (∀ wv_1, Ext w.drew wv_1 -> Loads P 3 (a9.add (a8.toNat * 1)) (.int .i64 aa) wv_1) /\ ∃ ab : Int, ab = IntKind.wrap .i64 (a7 + aa) /\ ∃ ac : Int, ac = IntKind.wrap .i64 (((a4 : Nat) : Int) - 1) /\ (0 <= (ac : Int) /\ (ac : Int) < (a4 : Nat)) /\ ptrS a3 fun ae => ∃ af, Loads P 3 (ae.add (ac.toNat * 1)) (.int .i64 af) w.drew /\ (af : Int) ≠ 0 /\ ∃ ag : Int, ag = IntKind.wrap .i64 (Int.tdiv ab af) /\ ∃ ah : Int, ah = (if 999999999 < ag then 999999999 else ag) /\ ∃ (ai : Int -> World -> Prop) (mu : Int -> World -> Nat), ai ah w.drew /\
 ∀ (aj : Fr) (ak : World) (q : Int), ai q ak ->
 ((decide ((0 : Int) < q)) = true ->
 ∃ al : Int, al = IntKind.wrap .i64 (((a4 : Nat) : Int) - 1) /\ (0 <= (al : Int) /\ (al : Int) < (a4 : Nat)) /\ ptrS a3 fun am => ∃ an, (∀ wv_3, Ext ak.drew wv_3 -> Loads P 3 (am.add (al.toNat * 1)) (.int .i64 an) wv_3) /\ ∃ ao : Int, ao = IntKind.wrap .i64 (q * an) /\ ∃ ap : Int, ap = IntKind.wrap .i64 (ab - ao) /\ ((decide ((ap : Int) < 1000000000)) = true ->
 ∃ aq : Int, aq = IntKind.wrap .i64 (((a4 : Nat) : Int) - 2) /\ (0 <= (aq : Int) /\ (aq : Int) < (a4 : Nat)) /\ ptrS a3 fun ar => ∃ au, (∀ wv_4, Ext ak.drew wv_4 -> Loads P 3 (ar.add (aq.toNat * 1)) (.int .i64 au) wv_4) /\ ∃ av : Int, av = IntKind.wrap .i64 (q * au) /\ ∃ aw : Int, aw = IntKind.wrap .i64 (((a4 : Nat) : Int) - 1) /\ (0 <= (aw : Int) /\ (aw : Int) < (a4 : Nat)) /\ ptrS a3 fun ax => ∃ ay, (∀ wv_5, Ext ak.drew wv_5 -> Loads P 3 (ax.add (aw.toNat * 1)) (.int .i64 ay) wv_5) /\ ∃ az : Int, az = IntKind.wrap .i64 (q * ay) /\ ∃ b0 : Int, b0 = IntKind.wrap .i64 (ab - az) /\ ∃ b1 : Int, b1 = IntKind.wrap .i64 (b0 * 1000000000) /\ ∃ b2 : Int, b2 = IntKind.wrap .i64 (((a4 : Nat) : Int) - 2) /\ (0 <= (b2 : Int) /\ (b2 : Int) < (a1 : Nat)) /\ ptrS a0 fun b3 => ∃ b4, (∀ wv_6, Ext ak.drew wv_6 -> Loads P 3 (b3.add (b2.toNat * 1)) (.int .i64 b4) wv_6) /\ ∃ b5 : Int, b5 = IntKind.wrap .i64 (b1 + b4) /\ ((decide ((b5 : Int) < av)) = true ->
 ∃ b6 : Int, b6 = IntKind.wrap .i64 (q - 1) /\ ai b6 ak.drew /\ mu b6 ak.drew < mu q ak) /\
 ((decide ((b5 : Int) < av)) = false ->
 Calls P 279 ⟨[.slice a0 a1 a2, .slice a3 a4 a5, .int .i64 q]⟩ ak.drew fun e b7 =>
 ∃ b8, e = .returned (.bool b8) /\
 (b8 = true ->
 ∃ b9 : Int, b9 = IntKind.wrap .i64 (q - 1) /\ Calls P 280 ⟨[.slice a0 a1 a2, .slice a3 a4 a5]⟩ b7 fun ba bb =>
 ba = .returned (.tuple #[]) /\
 impl_divStep_j0 b9 bb R) /\
 (b8 = false ->
 impl_divStep_j0 q b7 R))) /\
 ((decide ((ap : Int) < 1000000000)) = false ->
 (false = true ->
 ∃ bc : Int, bc = IntKind.wrap .i64 (q - 1) /\ ai bc ak.drew /\ mu bc ak.drew < mu q ak) /\
 (false = false ->
 Calls P 279 ⟨[.slice a0 a1 a2, .slice a3 a4 a5, .int .i64 q]⟩ ak.drew fun bd be =>
 ∃ bf, bd = .returned (.bool bf) /\
 (bf = true ->
 ∃ bg : Int, bg = IntKind.wrap .i64 (q - 1) /\ Calls P 280 ⟨[.slice a0 a1 a2, .slice a3 a4 a5]⟩ be fun bh bi =>
 bh = .returned (.tuple #[]) /\
 impl_divStep_j1 bg bi R) /\
 (bf = false ->
 impl_divStep_j1 q be R)))) /\
 ((decide ((0 : Int) < q)) = false ->
 (false = true ->
 ∃ bj : Int, bj = IntKind.wrap .i64 (((a4 : Nat) : Int) - 2) /\ (0 <= (bj : Int) /\ (bj : Int) < (a4 : Nat)) /\ ptrS a3 fun bk => ∃ bl, (∀ wv_11, Ext ak.drew wv_11 -> Loads P 3 (bk.add (bj.toNat * 1)) (.int .i64 bl) wv_11) /\ ∃ bm : Int, bm = IntKind.wrap .i64 (q * bl) /\ ∃ bn : Int, bn = IntKind.wrap .i64 (((a4 : Nat) : Int) - 1) /\ (0 <= (bn : Int) /\ (bn : Int) < (a4 : Nat)) /\ ptrS a3 fun bo => ∃ bp, (∀ wv_12, Ext ak.drew wv_12 -> Loads P 3 (bo.add (bn.toNat * 1)) (.int .i64 bp) wv_12) /\ ∃ bq : Int, bq = IntKind.wrap .i64 (q * bp) /\ ∃ br : Int, br = IntKind.wrap .i64 (ab - bq) /\ ∃ bs : Int, bs = IntKind.wrap .i64 (br * 1000000000) /\ ∃ bt : Int, bt = IntKind.wrap .i64 (((a4 : Nat) : Int) - 2) /\ (0 <= (bt : Int) /\ (bt : Int) < (a1 : Nat)) /\ ptrS a0 fun bu => ∃ bv, (∀ wv_13, Ext ak.drew wv_13 -> Loads P 3 (bu.add (bt.toNat * 1)) (.int .i64 bv) wv_13) /\ ∃ bw : Int, bw = IntKind.wrap .i64 (bs + bv) /\ ((decide ((bw : Int) < bm)) = true ->
 ∃ bx : Int, bx = IntKind.wrap .i64 (q - 1) /\ ai bx ak.drew /\ mu bx ak.drew < mu q ak) /\
 ((decide ((bw : Int) < bm)) = false ->
 Calls P 279 ⟨[.slice a0 a1 a2, .slice a3 a4 a5, .int .i64 q]⟩ ak.drew fun bz c0 =>
 ∃ c1, bz = .returned (.bool c1) /\
 (c1 = true ->
 ∃ c2 : Int, c2 = IntKind.wrap .i64 (q - 1) /\ Calls P 280 ⟨[.slice a0 a1 a2, .slice a3 a4 a5]⟩ c0 fun c3 c4 =>
 c3 = .returned (.tuple #[]) /\
 impl_divStep_j2 c2 c4 R) /\
 (c1 = false ->
 impl_divStep_j2 q c0 R))) /\
 (false = false ->
 (false = true ->
 ∃ c5 : Int, c5 = IntKind.wrap .i64 (q - 1) /\ ai c5 ak.drew /\ mu c5 ak.drew < mu q ak) /\
 (false = false ->
 Calls P 279 ⟨[.slice a0 a1 a2, .slice a3 a4 a5, .int .i64 q]⟩ ak.drew fun c6 c7 =>
 ∃ c8, c6 = .returned (.bool c8) /\
 (c8 = true ->
 ∃ c9 : Int, c9 = IntKind.wrap .i64 (q - 1) /\ Calls P 280 ⟨[.slice a0 a1 a2, .slice a3 a4 a5]⟩ c7 fun ca cb =>
 ca = .returned (.tuple #[]) /\
 impl_divStep_j3 c9 cb R) /\
 (c8 = false ->
 impl_divStep_j3 q c7 R))))
theorem impl_divStep_ret {a : Option Addr} {a0 a1 : Nat} {a2 : Option Addr} {a3 a4 : Nat} (h : impl_divStep a a0 a1 a2 a3 a4 w R) : Ret P 238 [.slice a a0 a1, .slice a2 a3 a4] w R := Ret.of_fsem Tryz.func238 rfl (Eq.mp (show _ = fsem P Tryz.f238 (fun k => cond (Nat.beq k 5) [(7, .one (.int .i64))] ([])) _ R w from by kernel_rfl) h)
def spec_NatGcd_j0 (a0 : Option Addr) (a1 a2 : Nat) (a3 : Option Addr) (a4 a5 : Nat) (W : World) (R : Value -> World -> Prop) : Prop :=
 ∀ r a6, New W (.cells ⟨[]⟩ 3 (0, 0)) r a6 ->
 ∃ a7 a8 a9 aa, Appends P [22, 22] [(.slice (some ⟨r, 0, none⟩) 0 0), .slice a0 a1 a2] (.slice a7 a8 a9) a6 aa /\
 ∀ ab ac, New aa (.cells ⟨[]⟩ 3 (0, 0)) ab ac ->
 ∃ ae af ag ah, Appends P [22, 22] [(.slice (some ⟨ab, 0, none⟩) 0 0), .slice a3 a4 a5] (.slice ae af ag) ac ah /\
 ∃ (ai : Option Addr -> Nat -> Nat -> Option Addr -> Nat -> Nat -> World -> Prop) (mu : Option Addr -> Nat -> Nat -> Option Addr -> Nat -> Nat -> World -> Nat), ai a7 a8 a9 ae af ag ah /\
 ∀ (aj : Fr) (ak : World) (al : Option Addr) (am an : Nat) (ao : Option Addr) (ap aq : Nat), ai al am an ao ap aq ak ->
 ((decide ((0 : Int) < ((ap : Nat) : Int))) = true ->
 Calls P 224 ⟨[.slice al am an, .slice ao ap aq]⟩ ak fun ar au =>
 ∃ av aw ax ay az b0, ar = .returned (.tuple #[.slice av aw ax, .slice ay az b0]) /\
 ai ao ap aq ay az b0 au /\ mu ao ap aq ay az b0 au < mu al am an ao ap aq ak) /\
 ((decide ((0 : Int) < ((ap : Nat) : Int))) = false ->
 R (.slice al am an) ak)
def spec_NatGcd (a0 : Option Addr) (a1 a2 : Nat) (a3 : Option Addr) (a4 a5 : Nat) (w : World) (R : Value -> World -> Prop) : Prop :=
 Calls P 223 ⟨[.slice a0 a1 a2]⟩ w fun e wv =>
 ∃ a6, e = .returned (.bool a6) /\
 ((!a6) = true ->
 (true = true ->
 R (.slice none 0 0) wv) /\
 (true = false ->
 spec_NatGcd_j0 a0 a1 a2 a3 a4 a5 wv R)) /\
 ((!a6) = false ->
 Calls P 223 ⟨[.slice a3 a4 a5]⟩ wv fun a7 a8 =>
 ∃ a9, a7 = .returned (.bool a9) /\
 ((!a9) = true ->
 R (.slice none 0 0) a8) /\
 ((!a9) = false ->
 spec_NatGcd_j0 a0 a1 a2 a3 a4 a5 a8 R))
theorem spec_NatGcd_ret {a : Option Addr} {a0 a1 : Nat} {a2 : Option Addr} {a3 a4 : Nat} (h : spec_NatGcd a a0 a1 a2 a3 a4 w R) : Ret P 242 [.slice a a0 a1, .slice a2 a3 a4] w R := Ret.of_fsem Tryz.func242 rfl (Eq.mp (show _ = fsem P Tryz.f242 (fun k => cond (Nat.beq k 6) [(5, .one .slice), (6, .one .slice)] ([])) _ R w from by kernel_rfl) h)
def spec_l02Trim (a0 : Option Addr) (a1 a2 : Nat) (w : World) (R : Value -> World -> Prop) : Prop :=
 ∃ (a3 : Int -> World -> Prop) (mu : Int -> World -> Nat), a3 ((a1 : Nat) : Int) w /\
 ∀ (a4 : Fr) (wv : World) (n : Int), a3 n wv ->
 ((decide ((0 : Int) < n)) = true ->
 ∃ a5 : Int, a5 = IntKind.wrap .i64 (n - 1) /\ (0 <= (a5 : Int) /\ (a5 : Int) < (a1 : Nat)) /\ ptrS a0 fun ad => ∃ a6, Loads P 3 (ad.add (a5.toNat * 1)) (.int .i64 a6) wv /\ ((decide ((a6 : Int) = 0)) = true ->
 ∃ a7 : Int, a7 = IntKind.wrap .i64 (n - 1) /\ a3 a7 wv /\ mu a7 wv < mu n wv) /\
 ((decide ((a6 : Int) = 0)) = false ->
 (0 <= (n : Int) /\ (n : Int) <= (a2 : Nat)) /\ R (.slice (sub a0 0 a2 1) (n.toNat - 0) (a2 - 0)) wv)) /\
 ((decide ((0 : Int) < n)) = false ->
 (false = true ->
 ∃ a8 : Int, a8 = IntKind.wrap .i64 (n - 1) /\ a3 a8 wv /\ mu a8 wv < mu n wv) /\
 (false = false ->
 (0 <= (n : Int) /\ (n : Int) <= (a2 : Nat)) /\ R (.slice (sub a0 0 a2 1) (n.toNat - 0) (a2 - 0)) wv))
theorem spec_l02Trim_ret {a : Option Addr} {a0 a1 : Nat} (h : spec_l02Trim a a0 a1 w R) : Ret P 243 [.slice a a0 a1] w R := Ret.of_fsem Tryz.func243 rfl (Eq.mp (show _ = fsem P Tryz.f243 (fun k => cond (Nat.beq k 3) [(3, .one (.int .i64))] ([])) _ R w from by kernel_rfl) h)
def spec_l02Add_j2 (a0 : World) (a1 : Option Addr -> Nat -> Nat -> Int -> Int -> World -> Prop) (mu : Option Addr -> Nat -> Nat -> Int -> Int -> World -> Nat) (a2 : Option Addr) (a3 a4 : Nat) (carry i n_1 : Int) (a5 : World) (R : Value -> World -> Prop) : Prop :=
 (1000000000 : Int) ≠ 0 /\ ∃ a6 : Int, a6 = Int.tmod n_1 1000000000 /\ ∀ a7 a8, New a5 (.cells ⟨[.int .i64 a6]⟩ 3 (0, 0)) a7 a8 ->
 ∃ a9 aa ab ac, Appends P [22, 22] [.slice a2 a3 a4, (.slice (some ⟨a7, 0, none⟩) 1 1)] (.slice a9 aa ab) a8 ac /\
 (1000000000 : Int) ≠ 0 /\ ∃ ae : Int, ae = IntKind.wrap .i64 (Int.tdiv n_1 1000000000) /\ ∃ af : Int, af = IntKind.wrap .i64 (i + 1) /\ a1 a9 aa ab ae af ac /\ mu a9 aa ab ae af ac < mu a2 a3 a4 carry i a0
def spec_l02Add_j1 (a0 : Option Addr) (a1 : Nat) (a2 : World) (a3 : Option Addr -> Nat -> Nat -> Int -> Int -> World -> Prop) (mu : Option Addr -> Nat -> Nat -> Int -> Int -> World -> Nat) (a4 : Option Addr) (a5 a6 : Nat) (carry i n : Int) (a7 : World) (R : Value -> World -> Prop) : Prop :=
 ((decide ((i : Int) < ((a1 : Nat) : Int))) = true ->
 (0 <= (i : Int) /\ (i : Int) < (a1 : Nat)) /\ ptrS a0 fun a8 => ∃ a9, Loads P 3 (a8.add (i.toNat * 1)) (.int .i64 a9) a7 /\ ∃ aa : Int, aa = IntKind.wrap .i64 (n + a9) /\ spec_l02Add_j2 a2 a3 mu a4 a5 a6 carry i aa a7 R) /\
 ((decide ((i : Int) < ((a1 : Nat) : Int))) = false ->
 spec_l02Add_j2 a2 a3 mu a4 a5 a6 carry i n a7 R)
def spec_l02Add_j0 (a0 : Option Addr) (a1 : Nat) (a2 : Option Addr) (a3 : Nat) (a4 : World) (a5 : Option Addr -> Nat -> Nat -> Int -> Int -> World -> Prop) (mu : Option Addr -> Nat -> Nat -> Int -> Int -> World -> Nat) (a6 : Option Addr) (a7 a8 : Nat) (carry i : Int) (W : World) (R : Value -> World -> Prop) : Prop :=
 ((decide ((i : Int) < ((a1 : Nat) : Int))) = true ->
 (0 <= (i : Int) /\ (i : Int) < (a1 : Nat)) /\ ptrS a0 fun ad => ∃ a9, Loads P 3 (ad.add (i.toNat * 1)) (.int .i64 a9) W /\ ∃ aa : Int, aa = IntKind.wrap .i64 (carry + a9) /\ spec_l02Add_j1 a2 a3 a4 a5 mu a6 a7 a8 carry i aa W R) /\
 ((decide ((i : Int) < ((a1 : Nat) : Int))) = false ->
 spec_l02Add_j1 a2 a3 a4 a5 mu a6 a7 a8 carry i carry W R)
def spec_l02Add (a0 : Option Addr) (a1 a2 : Nat) (a3 : Option Addr) (a4 a5 : Nat) (w : World) (R : Value -> World -> Prop) : Prop :=
 ∀ r wv, New w (.cells ⟨[]⟩ 3 (0, 0)) r wv ->
 ∃ (a6 : Option Addr -> Nat -> Nat -> Int -> Int -> World -> Prop) (mu : Option Addr -> Nat -> Nat -> Int -> Int -> World -> Nat), a6 (some ⟨r, 0, none⟩) 0 0 0 0 wv /\
 ∀ (a7 : Fr) (a8 : World) (a9 : Option Addr) (aa ab : Nat) (carry i : Int), a6 a9 aa ab carry i a8 ->
 ((decide ((i : Int) < ((a1 : Nat) : Int))) = true ->
 (true = true ->
 (true = true ->
 spec_l02Add_j0 a0 a1 a3 a4 a8 a6 mu a9 aa ab carry i a8 R) /\
 (true = false ->
 R (.slice a9 aa ab) a8)) /\
 (true = false ->
 ((decide ((0 : Int) < carry)) = true ->
 spec_l02Add_j0 a0 a1 a3 a4 a8 a6 mu a9 aa ab carry i a8 R) /\
 ((decide ((0 : Int) < carry)) = false ->
 R (.slice a9 aa ab) a8))) /\
 ((decide ((i : Int) < ((a1 : Nat) : Int))) = false ->
 ((decide ((i : Int) < ((a4 : Nat) : Int))) = true ->
 (true = true ->
 spec_l02Add_j0 a0 a1 a3 a4 a8 a6 mu a9 aa ab carry i a8 R) /\
 (true = false ->
 R (.slice a9 aa ab) a8)) /\
 ((decide ((i : Int) < ((a4 : Nat) : Int))) = false ->
 ((decide ((0 : Int) < carry)) = true ->
 spec_l02Add_j0 a0 a1 a3 a4 a8 a6 mu a9 aa ab carry i a8 R) /\
 ((decide ((0 : Int) < carry)) = false ->
 R (.slice a9 aa ab) a8)))
theorem spec_l02Add_ret {a : Option Addr} {a0 a1 : Nat} {a2 : Option Addr} {a3 a4 : Nat} (h : spec_l02Add a a0 a1 a2 a3 a4 w R) : Ret P 244 [.slice a a0 a1, .slice a2 a3 a4] w R := Ret.of_fsem Tryz.func244 rfl (Eq.mp (show _ = fsem P Tryz.f244 (fun k => cond (Nat.beq k 5) [(5, .one .slice), (6, .one (.int .i64)), (7, .one (.int .i64))] ([])) _ R w from by kernel_rfl) h)
def spec_l02Sub_j1 (a0 : World) (a1 : Option Addr -> Nat -> Nat -> Int -> Int -> World -> Prop) (mu : Option Addr -> Nat -> Nat -> Int -> Int -> World -> Nat) (a2 : Option Addr) (a3 a4 : Nat) (less a5 : Int) (less_1 n_1 : Int) (a6 : World) (R : Value -> World -> Prop) : Prop :=
 ∀ a7 a8, New a6 (.cells ⟨[.int .i64 n_1]⟩ 3 (0, 0)) a7 a8 ->
 ∃ a9 aa ab ac, Appends P [22, 22] [.slice a2 a3 a4, (.slice (some ⟨a7, 0, none⟩) 1 1)] (.slice a9 aa ab) a8 ac /\
 ∃ ae : Int, ae = IntKind.wrap .i64 (a5 + 1) /\ a1 a9 aa ab less_1 ae ac /\ mu a9 aa ab less_1 ae ac < mu a2 a3 a4 less a5 a0
def spec_l02Sub_j0 (a0 : World) (a1 : Option Addr -> Nat -> Nat -> Int -> Int -> World -> Prop) (mu : Option Addr -> Nat -> Nat -> Int -> Int -> World -> Nat) (a2 : Option Addr) (a3 a4 : Nat) (less a5 n : Int) (W : World) (R : Value -> World -> Prop) : Prop :=
 ((decide ((n : Int) < 0)) = true ->
 ∃ a6 : Int, a6 = IntKind.wrap .i64 (n + 1000000000) /\ spec_l02Sub_j1 a0 a1 mu a2 a3 a4 less a5 1 a6 W R) /\
 ((decide ((n : Int) < 0)) = false ->
 spec_l02Sub_j1 a0 a1 mu a2 a3 a4 less a5 0 n W R)
def spec_l02Sub (a0 : Option Addr) (a1 a2 : Nat) (a3 : Option Addr) (a4 a5 : Nat) (w : World) (R : Value -> World -> Prop) : Prop :=
 ∀ r wv, New w (.cells ⟨[]⟩ 3 (0, 0)) r wv ->
 ∃ (a6 : Option Addr -> Nat -> Nat -> Int -> Int -> World -> Prop) (mu : Option Addr -> Nat -> Nat -> Int -> Int -> World -> Nat), a6 (some ⟨r, 0, none⟩) 0 0 0 0 wv /\
 ∀ (a7 : Fr) (a8 : World) (a9 : Option Addr) (aa ab : Nat) (less ac : Int), a6 a9 aa ab less ac a8 ->
 ((decide ((ac : Int) < ((a1 : Nat) : Int))) = true ->
 (0 <= (ac : Int) /\ (ac : Int) < (a1 : Nat)) /\ ptrS a0 fun ad => ∃ ae, Loads P 3 (ad.add (ac.toNat * 1)) (.int .i64 ae) a8 /\ ∃ af : Int, af = IntKind.wrap .i64 (ae - less) /\ ((decide ((ac : Int) < ((a4 : Nat) : Int))) = true ->
 (0 <= (ac : Int) /\ (ac : Int) < (a4 : Nat)) /\ ptrS a3 fun ag => ∃ ah, Loads P 3 (ag.add (ac.toNat * 1)) (.int .i64 ah) a8 /\ ∃ ai : Int, ai = IntKind.wrap .i64 (af - ah) /\ spec_l02Sub_j0 a8 a6 mu a9 aa ab less ac ai a8 R) /\
 ((decide ((ac : Int) < ((a4 : Nat) : Int))) = false ->
 spec_l02Sub_j0 a8 a6 mu a9 aa ab less ac af a8 R)) /\
 ((decide ((ac : Int) < ((a1 : Nat) : Int))) = false ->
 Calls P 243 ⟨[.slice a9 aa ab]⟩ a8 fun e aj =>
 ∃ ak al am, e = .returned (.slice ak al am) /\
 R (.slice ak al am) aj)
theorem spec_l02Sub_ret {a : Option Addr} {a0 a1 : Nat} {a2 : Option Addr} {a3 a4 : Nat} (h : spec_l02Sub a a0 a1 a2 a3 a4 w R) : Ret P 245 [.slice a a0 a1, .slice a2 a3 a4] w R := Ret.of_fsem Tryz.func245 rfl (Eq.mp (show _ = fsem P Tryz.f245 (fun k => cond (Nat.beq k 5) [(5, .one .slice), (6, .one (.int .i64)), (12, .one (.int .i64))] ([])) _ R w from by kernel_rfl) h)
def spec_l05Gcd (a0 : Option Addr) (a1 a2 : Nat) (a3 : Option Addr) (a4 a5 : Nat) (w : World) (R : Value -> World -> Prop) : Prop :=
 ∃ (a6 : Option Addr -> Nat -> Nat -> Option Addr -> Nat -> Nat -> World -> Prop) (mu : Option Addr -> Nat -> Nat -> Option Addr -> Nat -> Nat -> World -> Nat), a6 a0 a1 a2 a3 a4 a5 w /\
 ∀ (a7 : Fr) (wv : World) (a8 : Option Addr) (a9 aa : Nat) (ab : Option Addr) (ac ae : Nat), a6 a8 a9 aa ab ac ae wv ->
 ((decide ((0 : Int) < ((ac : Nat) : Int))) = true ->
 Calls P 224 ⟨[.slice a8 a9 aa, .slice ab ac ae]⟩ wv fun e af =>
 ∃ ag ah ai aj ak al, e = .returned (.tuple #[.slice ag ah ai, .slice aj ak al]) /\
 a6 ab ac ae aj ak al af /\ mu ab ac ae aj ak al af < mu a8 a9 aa ab ac ae wv) /\
 ((decide ((0 : Int) < ((ac : Nat) : Int))) = false ->
 R (.slice a8 a9 aa) wv)
theorem spec_l05Gcd_ret {a : Option Addr} {a0 a1 : Nat} {a2 : Option Addr} {a3 a4 : Nat} (h : spec_l05Gcd a a0 a1 a2 a3 a4 w R) : Ret P 246 [.slice a a0 a1, .slice a2 a3 a4] w R := Ret.of_fsem Tryz.func246 rfl (Eq.mp (show _ = fsem P Tryz.f246 (fun k => cond (Nat.beq k 4) [(5, .one .slice), (6, .one .slice)] ([])) _ R w from by kernel_rfl) h)
def spec_l08Table (w : World) (R : Value -> World -> Prop) : Prop :=
 ∀ r wv, New w (.cells ⟨[(.string (S [65, 85, 68])), (.string (S [48, 51, 54])), .int .i64 2, .int .i64 5, (.string (S [66, 72, 68])), (.string (S [48, 52, 56])), .int .i64 3, .int .i64 5, (.string (S [67, 65, 68])), (.string (S [49, 50, 52])), .int .i64 2, .int .i64 5, (.string (S [67, 72, 70])), (.string (S [55, 53, 54])), .int .i64 2, .int .i64 5, (.string (S [67, 76, 70])), (.string (S [57, 57, 48])), .int .i64 4, .int .i64 1, (.string (S [67, 90, 75])), (.string (S [50, 48, 51])), .int .i64 2, .int .i64 100, (.string (S [68, 75, 75])), (.string (S [50, 48, 56])), .int .i64 2, .int .i64 50, (.string (S [69, 85, 82])), (.string (S [57, 55, 56])), .int .i64 2, .int .i64 1, (.string (S [71, 66, 80])), (.string (S [56, 50, 54])), .int .i64 2, .int .i64 1, (.string (S [72, 85, 70])), (.string (S [51, 52, 56])), .int .i64 2, .int .i64 500, (.string (S [73, 83, 75])), (.string (S [51, 53, 50])), .int .i64 0, .int .i64 1, (.string (S [74, 80, 89])), (.string (S [51, 57, 50])), .int .i64 0, .int .i64 1, (.string (S [75, 82, 87])), (.string (S [52, 49, 48])), .int .i64 0, .int .i64 10, (.string (S [75, 87, 68])), (.string (S [52, 49, 52])), .int .i64 3, .int .i64 5, (.string (S [78, 79, 75])), (.string (S [53, 55, 56])), .int .i64 2, .int .i64 100, (.string (S [78, 90, 68])), (.string (S [53, 53, 52])), .int .i64 2, .int .i64 10, (.string (S [80, 76, 78])), (.string (S [57, 56, 53])), .int .i64 2, .int .i64 1, (.string (S [83, 69, 75])), (.string (S [55, 53, 50])), .int .i64 2, .int .i64 100, (.string (S [84, 78, 68])), (.string (S [55, 56, 56])), .int .i64 3, .int .i64 10, (.string (S [85, 83, 68])), (.string (S [56, 52, 48])), .int .i64 2, .int .i64 1]⟩ 207 (0, 0)) r wv ->
 R (.slice (some ⟨r, 0, none⟩) 20 20) wv
theorem spec_l08Table_ret (h : spec_l08Table w R) : Ret P 247 [] w R := Ret.of_fsem Tryz.func247 rfl (Eq.mp (show _ = fsem P Tryz.f247 (fun k => []) _ R w from by kernel_rfl) h)
def spec_l07Ten (k : Int) (w : World) (R : Value -> World -> Prop) : Prop :=
 ∀ r wv, New w (.cells ⟨[.bool false, .slice none 0 0]⟩ 31 (0, 0)) r wv ->
 Calls P 284 ⟨[.int .i64 k]⟩ wv fun e a0 =>
 ∃ a1 a2 a3, e = .returned (.slice a1 a2 a3) /\
 ∃ wv_2, Stores P 31 ⟨r, 0, none⟩ (.agg #[.bool false, .slice a1 a2 a3]) a0 wv_2 /\
 ∃ r0 a4 a5 a6, Loads P 31 ⟨r, 0, none⟩ (.agg #[.bool r0, .slice a4 a5 a6]) wv_2 /\ R (.agg #[.bool r0, .slice a4 a5 a6]) wv_2
theorem spec_l07Ten_ret {k : Int} (h : spec_l07Ten k w R) : Ret P 251 [.int .i64 k] w R := Ret.of_fsem Tryz.func251 rfl (Eq.mp (show _ = fsem P Tryz.f251 (fun k => []) _ R w from by kernel_rfl) h)
def impl_intMul (x0 : Bool) (a0 : Option Addr) (a1 a2 : Nat) (y0 : Bool) (a3 : Option Addr) (a4 a5 : Nat) (w : World) (R : Value -> World -> Prop) : Prop :=
 ∀ r wv, New w (.cells ⟨[.bool x0, .slice a0 a1 a2]⟩ 31 (0, 0)) r wv ->
 ∀ a6 a7, New wv (.cells ⟨[.bool y0, .slice a3 a4 a5]⟩ 31 (0, 0)) a6 a7 ->
 ∀ a8 a9, New a7 (.cells ⟨[.bool false, .slice none 0 0]⟩ 31 (0, 0)) a8 a9 ->
 ∃ t6, (∀ wv_3, Ext a9.drew wv_3 -> Loads P 4 ((⟨r, 0, none⟩ : Addr).add 0) (.bool t6) wv_3) /\ ∃ t8, (∀ wv_4, Ext a9.drew wv_4 -> Loads P 4 ((⟨a6, 0, none⟩ : Addr).add 0) (.bool t8) wv_4) /\ ∃ aa ab ac, (∀ wv_5, Ext a9.drew wv_5 -> Loads P 22 ((⟨r, 0, none⟩ : Addr).add 1) (.slice aa ab ac) wv_5) /\ ∃ ae af ag, (∀ wv_6, Ext a9.drew wv_6 -> Loads P 22 ((⟨a6, 0, none⟩ : Addr).add 1) (.slice ae af ag) wv_6) /\ Calls P 165 ⟨[.slice aa ab ac, .slice ae af ag]⟩ a9.drew fun e ah =>
 ∃ ai aj ak, e = .returned (.slice ai aj ak) /\
 Ext a9.drew ah /\ Calls P 173 ⟨[(.bool (!(t6 == t8))), .slice ai aj ak]⟩ ah fun al am =>
 ∃ an ao ap aq, al = .returned (.agg #[.bool an, .slice ao ap aq]) /\
 ∃ wv_9, Stores P 31 ⟨a8, 0, none⟩ (.agg #[.bool an, .slice ao ap aq]) am wv_9 /\
 ∃ r0 ar au av, Loads P 31 ⟨a8, 0, none⟩ (.agg #[.bool r0, .slice ar au av]) wv_9 /\ R (.agg #[.bool r0, .slice ar au av]) wv_9
theorem impl_intMul_ret {x0 : Bool} {a : Option Addr} {a0 a1 : Nat} {y0 : Bool} {a2 : Option Addr} {a3 a4 : Nat} (h : impl_intMul x0 a a0 a1 y0 a2 a3 a4 w R) : Ret P 258 [.agg #[.bool x0, .slice a a0 a1], .agg #[.bool y0, .slice a2 a3 a4]] w R := Ret.of_fsem Tryz.func258 rfl (Eq.mp (show _ = fsem P Tryz.f258 (fun k => []) _ R w from by kernel_rfl) h)
def spec_RatInt (x0 : Bool) (a0 : Option Addr) (a1 a2 : Nat) (w : World) (R : Value -> World -> Prop) : Prop :=
 ∀ r wv, New w (.cells ⟨[.bool x0, .slice a0 a1 a2]⟩ 31 (0, 0)) r wv ->
 ∀ a3 a4, New wv (.cells ⟨[.bool false, .slice none 0 0, .slice none 0 0]⟩ 53 (0, 0)) a3 a4 ->
 ∃ a5 a6 a7 a8, (∀ wv_2, Ext a4.drew wv_2 -> Loads P 31 ⟨r, 0, none⟩ (.agg #[.bool a5, .slice a6 a7 a8]) wv_2) /\ Calls P 128 ⟨[.int .i64 1]⟩ a4.drew fun e a9 =>
 ∃ aa ab ac ae, e = .returned (.agg #[.bool aa, .slice ab ac ae]) /\
 Ext a4.drew a9 /\ Calls P 265 ⟨[.agg #[.bool a5, .slice a6 a7 a8], .agg #[.bool aa, .slice ab ac ae]]⟩ a9 fun af ag =>
 ∃ ah ai aj ak al am an t6, af = .returned (.tuple #[.agg #[.bool ah, .slice ai aj ak, .slice al am an], .bool t6]) /\
 ∃ wv_5, Stores P 53 ⟨a3, 0, none⟩ (.agg #[.bool ah, .slice ai aj ak, .slice al am an]) ag wv_5 /\
 ∃ r0 ao ap aq ar au av, Loads P 53 ⟨a3, 0, none⟩ (.agg #[.bool r0, .slice ao ap aq, .slice ar au av]) wv_5 /\ R (.tuple #[.agg #[.bool r0, .slice ao ap aq, .slice ar au av], .bool t6]) wv_5
theorem spec_RatInt_ret {x0 : Bool} {a : Option Addr} {a0 a1 : Nat} (h : spec_RatInt x0 a a0 a1 w R) : Ret P 264 [.agg #[.bool x0, .slice a a0 a1]] w R := Ret.of_fsem Tryz.func264 rfl (Eq.mp (show _ = fsem P Tryz.f264 (fun k => []) _ R w from by kernel_rfl) h)
def spec_RatMake_j0 (r a0 a1 : Nat) (W : World) (R : Value -> World -> Prop) : Prop :=
 ∃ a2, Loads P 4 ((⟨r, 0, none⟩ : Addr).add 0) (.bool a2) W /\ ∃ a3, Loads P 4 ((⟨a0, 0, none⟩ : Addr).add 0) (.bool a3) W /\ ∃ a4 a5 a6, Loads P 22 ((⟨r, 0, none⟩ : Addr).add 1) (.slice a4 a5 a6) W /\ ∃ a7 a8 a9, Loads P 22 ((⟨a0, 0, none⟩ : Addr).add 1) (.slice a7 a8 a9) W /\ Calls P 177 ⟨[(.bool (!(a2 == a3))), .slice a4 a5 a6, .slice a7 a8 a9]⟩ W fun aa ab =>
 ∃ ac ae af ag ah ai aj ak, aa = .returned (.tuple #[.agg #[.bool ac, .slice ae af ag, .slice ah ai aj], .bool ak]) /\
 ∃ wv_6, Stores P 53 ⟨a1, 0, none⟩ (.agg #[.bool ac, .slice ae af ag, .slice ah ai aj]) ab wv_6 /\
 ∃ r0_1 al am an ao ap aq, Loads P 53 ⟨a1, 0, none⟩ (.agg #[.bool r0_1, .slice al am an, .slice ao ap aq]) wv_6 /\ R (.tuple #[.agg #[.bool r0_1, .slice al am an, .slice ao ap aq], .bool ak]) wv_6
def spec_RatMake (num0 : Bool) (a0 : Option Addr) (a1 a2 : Nat) (den0 : Bool) (a3 : Option Addr) (a4 a5 : Nat) (w : World) (R : Value -> World -> Prop) : Prop :=
 ∀ r wv, New w (.cells ⟨[.bool num0, .slice a0 a1 a2]⟩ 31 (0, 0)) r wv ->
 ∀ a6 a7, New wv (.cells ⟨[.bool den0, .slice a3 a4 a5]⟩ 31 (0, 0)) a6 a7 ->
 ∀ a8 a9, New a7 (.cells ⟨[.bool false, .slice none 0 0, .slice none 0 0]⟩ 53 (0, 0)) a8 a9 ->
 ∃ aa ab ac ae, Loads P 31 ⟨r, 0, none⟩ (.agg #[.bool aa, .slice ab ac ae]) a9 /\ Calls P 151 ⟨[.agg #[.bool aa, .slice ab ac ae]]⟩ a9 fun e af =>
 ∃ t7, e = .returned (.bool t7) /\
 ((!t7) = true ->
 (true = true ->
 ∃ wv_4, Stores P 53 ⟨a8, 0, none⟩ (.agg #[.bool false, .slice none 0 0, .slice none 0 0]) af wv_4 /\
 ∃ r0 ag ah ai aj ak al, Loads P 53 ⟨a8, 0, none⟩ (.agg #[.bool r0, .slice ag ah ai, .slice aj ak al]) wv_4 /\ R (.tuple #[.agg #[.bool r0, .slice ag ah ai, .slice aj ak al], .bool false]) wv_4) /\
 (true = false ->
 spec_RatMake_j0 r a6 a8 af R)) /\
 ((!t7) = false ->
 ∃ am an ao ap, Loads P 31 ⟨a6, 0, none⟩ (.agg #[.bool am, .slice an ao ap]) af /\ Calls P 151 ⟨[.agg #[.bool am, .slice an ao ap]]⟩ af fun aq ar =>
 ∃ au, aq = .returned (.bool au) /\
 ((!au) = true ->
 ∃ wv_8, Stores P 53 ⟨a8, 0, none⟩ (.agg #[.bool false, .slice none 0 0, .slice none 0 0]) ar wv_8 /\
 ∃ r0_2 av aw ax ay az b0, Loads P 53 ⟨a8, 0, none⟩ (.agg #[.bool r0_2, .slice av aw ax, .slice ay az b0]) wv_8 /\ R (.tuple #[.agg #[.bool r0_2, .slice av aw ax, .slice ay az b0], .bool false]) wv_8) /\
 ((!au) = false ->
 spec_RatMake_j0 r a6 a8 ar R))
theorem spec_RatMake_ret {a : Bool} {a0 : Option Addr} {a1 a2 : Nat} {a3 : Bool} {a4 : Option Addr} {a5 a6 : Nat} (h : spec_RatMake a a0 a1 a2 a3 a4 a5 a6 w R) : Ret P 265 [.agg #[.bool a, .slice a0 a1 a2], .agg #[.bool a3, .slice a4 a5 a6]] w R := Ret.of_fsem Tryz.func265 rfl (Eq.mp (show _ = fsem P Tryz.f265 (fun k => []) _ R w from by kernel_rfl) h)
def impl_isScale (scale : Int) (w : World) (R : Value -> World -> Prop) : Prop :=
 ((decide ((0 : Int) <= scale)) = true ->
 R (.bool (decide ((scale : Int) <= 30))) w) /\
 ((decide ((0 : Int) <= scale)) = false ->
 R (.bool false) w)
theorem impl_isScale_ret {a : Int} (h : impl_isScale a w R) : Ret P 266 [.int .i64 a] w R := Ret.of_fsem Tryz.func266 rfl (Eq.mp (show _ = fsem P Tryz.f266 (fun k => []) _ R w from by kernel_rfl) h)
def impl_scaled_1 (d0 : Bool) (a0 : Option Addr) (a1 a2 : Nat) (d2 : Int) (cap0 : Option Addr) (w : World) (R : Value -> World -> Prop) : Prop :=
 ∀ r wv, New w (.cells ⟨[.bool d0, .slice a0 a1 a2, .int .i64 d2]⟩ 63 (0, 0)) r wv ->
 ∀ a3 a4, New wv (.cells ⟨[.bool false, .slice none 0 0]⟩ 31 (0, 0)) a3 a4 ->
 ∃ t6, (∀ wv_2, Ext a4.drew wv_2 -> Loads P 4 (((⟨r, 0, none⟩ : Addr).add 0).add 0) (.bool t6) wv_2) /\ ∃ a5 a6 a7, (∀ wv_3, Ext a4.drew wv_3 -> Loads P 22 (((⟨r, 0, none⟩ : Addr).add 0).add 1) (.slice a5 a6 a7) wv_3) /\ ptrS cap0 fun ad => ∃ a8, (∀ wv_4, Ext a4.drew wv_4 -> Loads P 3 ad (.int .i64 a8) wv_4) /\ ∃ a9, (∀ wv_5, Ext a4.drew wv_5 -> Loads P 3 ((⟨r, 0, none⟩ : Addr).add 2) (.int .i64 a9) wv_5) /\ ∃ aa : Int, aa = IntKind.wrap .i64 (a8 - a9) /\ Calls P 268 ⟨[.int .i64 aa]⟩ a4.drew fun e ab =>
 ∃ ac ae af, e = .returned (.slice ac ae af) /\
 Ext a4.drew ab /\ Calls P 165 ⟨[.slice a5 a6 a7, .slice ac ae af]⟩ ab fun ag ah =>
 ∃ ai aj ak, ag = .returned (.slice ai aj ak) /\
 Ext ab ah /\ Calls P 173 ⟨[.bool t6, .slice ai aj ak]⟩ ah fun al am =>
 ∃ an ao ap aq, al = .returned (.agg #[.bool an, .slice ao ap aq]) /\
 ∃ wv_9, Stores P 31 ⟨a3, 0, none⟩ (.agg #[.bool an, .slice ao ap aq]) am wv_9 /\
 ∃ r0 ar au av, Loads P 31 ⟨a3, 0, none⟩ (.agg #[.bool r0, .slice ar au av]) wv_9 /\ R (.agg #[.bool r0, .slice ar au av]) wv_9
theorem impl_scaled_1_ret {d0 : Bool} {a : Option Addr} {a0 a1 : Nat} {d2 : Int} {a2 : Option Addr} (h : impl_scaled_1 d0 a a0 a1 d2 a2 w R) : Ret P 267 [.agg #[.bool d0, .slice a a0 a1, .int .i64 d2], .pointer a2] w R := Ret.of_fsem Tryz.func267 rfl (Eq.mp (show _ = fsem P Tryz.f267 (fun k => []) _ R w from by kernel_rfl) h)
def impl_natTen (k : Int) (w : World) (R : Value -> World -> Prop) : Prop :=
 (9 : Int) ≠ 0 /\ ∃ t6 : Int, t6 = IntKind.wrap .i64 (Int.tdiv k 9) /\ (9 : Int) ≠ 0 /\ ∃ t8 : Int, t8 = IntKind.wrap .i64 (Int.tdiv k 9) /\ ∃ t9 : Int, t9 = IntKind.wrap .i64 (t8 + 1) /\ (0 <= (t6 : Int) /\ (t6 : Int) <= t9 /\ ((8 : Nat) : Int) * t9 <= 281474976710656) /\
 ∀ r wv, New w (.cells ⟨zeroRow (.int .i64 0) (t9.toNat * 1)⟩ 3 (0, 0)) r wv ->
 (9 : Int) ≠ 0 /\ ∃ a0 : Int, a0 = Int.tmod k 9 /\ ∃ (a1 : Int -> Int -> World -> Prop) (mu : Int -> Int -> World -> Nat), a1 1 0 wv /\
 ∀ (a2 : Fr) (a3 : World) (top a4 : Int), a1 top a4 a3 ->
 ((decide ((a4 : Int) < a0)) = true ->
 ∃ a5 : Int, a5 = IntKind.wrap .i64 (top * 10) /\ ∃ a6 : Int, a6 = IntKind.wrap .i64 (a4 + 1) /\ a1 a5 a6 a3 /\ mu a5 a6 a3 < mu top a4 a3) /\
 ((decide ((a4 : Int) < a0)) = false ->
 ∀ a7 a8, New a3 (.cells ⟨[.int .i64 top]⟩ 3 (0, 0)) a7 a8 ->
 ∃ a9 aa ab ac, Appends P [22, 22] [(.slice (some ⟨r, 0, none⟩) t6.toNat t9.toNat), (.slice (some ⟨a7, 0, none⟩) 1 1)] (.slice a9 aa ab) a8 ac /\
 R (.slice a9 aa ab) ac)
theorem impl_natTen_ret {k : Int} (h : impl_natTen k w R) : Ret P 268 [.int .i64 k] w R := Ret.of_fsem Tryz.func268 rfl (Eq.mp (show _ = fsem P Tryz.f268 (fun k => cond (Nat.beq k 5) [(4, .one (.int .i64)), (13, .one (.int .i64))] ([])) _ R w from by kernel_rfl) h)
def impl_RatRest (r0 : Bool) (a0 : Option Addr) (a1 a2 : Nat) (a3 : Option Addr) (a4 a5 : Nat) (m : Int) (w : World) (R : Value -> World -> Prop) : Prop :=
 ∀ r wv, New w (.cells ⟨[.bool r0, .slice a0 a1 a2, .slice a3 a4 a5]⟩ 53 (0, 0)) r wv ->
 ∀ a6 a7, New wv (.cells ⟨[.bool false, .slice none 0 0]⟩ 31 (0, 0)) a6 a7 ->
 ∀ a8 a9, New a7 (.cells ⟨[.bool false, .slice none 0 0, .slice none 0 0]⟩ 53 (0, 0)) a8 a9 ->
 ∃ aa ab ac ae af ag ah, Loads P 53 ⟨r, 0, none⟩ (.agg #[.bool aa, .slice ab ac ae, .slice af ag ah]) a9 /\ Calls P 299 ⟨[.agg #[.bool aa, .slice ab ac ae, .slice af ag ah], .int .i64 m]⟩ a9 fun e ai =>
 ∃ aj ak al am an, e = .returned (.tuple #[.agg #[.bool aj, .slice ak al am], .bool an]) /\
 ∀ ao ap, New ai (.cells ⟨[.bool false, .slice none 0 0]⟩ 31 (0, 0)) ao ap ->
 ∃ wv_5, Stores P 31 ⟨ao, 0, none⟩ (.agg #[.bool aj, .slice ak al am]) ap wv_5 /\
 ((!an) = true ->
 ∃ wv_6, Stores P 31 ⟨a6, 0, none⟩ (.agg #[.bool false, .slice none 0 0]) wv_5 wv_6 /\
 ∃ wv_7, Stores P 53 ⟨a8, 0, none⟩ (.agg #[.bool false, .slice none 0 0, .slice none 0 0]) wv_6 wv_7 /\
 ∃ r0_1 aq ar au, Loads P 31 ⟨a6, 0, none⟩ (.agg #[.bool r0_1, .slice aq ar au]) wv_7 /\ ∃ r0_2 av aw ax ay az b0, Loads P 53 ⟨a8, 0, none⟩ (.agg #[.bool r0_2, .slice av aw ax, .slice ay az b0]) wv_7 /\ R (.tuple #[.agg #[.bool r0_1, .slice aq ar au], .agg #[.bool r0_2, .slice av aw ax, .slice ay az b0], .bool false]) wv_7) /\
 ((!an) = false ->
 ∃ b1 b2 b3 b4, Loads P 31 ⟨ao, 0, none⟩ (.agg #[.bool b1, .slice b2 b3 b4]) wv_5 /\ Calls P 300 ⟨[.agg #[.bool b1, .slice b2 b3 b4]]⟩ wv_5 fun b5 b6 =>
 ∃ b7 b8 b9 ba bb bc bd be, b5 = .returned (.tuple #[.agg #[.bool b7, .slice b8 b9 ba, .slice bb bc bd], .bool be]) /\
 ∀ bf bg, New b6 (.cells ⟨[.bool false, .slice none 0 0, .slice none 0 0]⟩ 53 (0, 0)) bf bg ->
 ∃ wv_10, Stores P 53 ⟨bf, 0, none⟩ (.agg #[.bool b7, .slice b8 b9 ba, .slice bb bc bd]) bg wv_10 /\
 ∃ bh bi bj bk bl bm bn, Loads P 53 ⟨r, 0, none⟩ (.agg #[.bool bh, .slice bi bj bk, .slice bl bm bn]) wv_10 /\ ∃ bo bp bq br bs bt bu, Loads P 53 ⟨bf, 0, none⟩ (.agg #[.bool bo, .slice bp bq br, .slice bs bt bu]) wv_10 /\ Calls P 301 ⟨[.agg #[.bool bh, .slice bi bj bk, .slice bl bm bn], .agg #[.bool bo, .slice bp bq br, .slice bs bt bu]]⟩ wv_10 fun bv bw =>
 ∃ bx bz c0 c1 c2 c3 c4 c5, bv = .returned (.tuple #[.agg #[.bool bx, .slice bz c0 c1, .slice c2 c3 c4], .bool c5]) /\
 ∀ c6 c7, New bw (.cells ⟨[.bool false, .slice none 0 0, .slice none 0 0]⟩ 53 (0, 0)) c6 c7 ->
 ∃ wv_13, Stores P 53 ⟨c6, 0, none⟩ (.agg #[.bool bx, .slice bz c0 c1, .slice c2 c3 c4]) c7 wv_13 /\
 ((!be) = true ->
 (true = true ->
 ∃ wv_14, Stores P 31 ⟨a6, 0, none⟩ (.agg #[.bool false, .slice none 0 0]) wv_13 wv_14 /\
 ∃ wv_15, Stores P 53 ⟨a8, 0, none⟩ (.agg #[.bool false, .slice none 0 0, .slice none 0 0]) wv_14 wv_15 /\
 ∃ r0_3 c8 c9 ca, Loads P 31 ⟨a6, 0, none⟩ (.agg #[.bool r0_3, .slice c8 c9 ca]) wv_15 /\ ∃ r0_4 cb cc cd ce cf cg, Loads P 53 ⟨a8, 0, none⟩ (.agg #[.bool r0_4, .slice cb cc cd, .slice ce cf cg]) wv_15 /\ R (.tuple #[.agg #[.bool r0_3, .slice c8 c9 ca], .agg #[.bool r0_4, .slice cb cc cd, .slice ce cf cg], .bool false]) wv_15) /\
 (true = false ->
 ∃ blks : List Nat, ∃ ch ci cj ck, (∀ wv_16, EX blks wv_13.drew wv_16 -> Loads P 31 ⟨ao, 0, none⟩ (.agg #[.bool ch, .slice ci cj ck]) wv_16) /\ ∃ cl cm cn co cp cq cr, (∀ wv_17, EX blks wv_13.drew wv_17 -> Loads P 53 ⟨c6, 0, none⟩ (.agg #[.bool cl, .slice cm cn co, .slice cp cq cr]) wv_17) /\ ∃ wv_18, Stores P 31 ⟨a6, 0, none⟩ (.agg #[.bool ch, .slice ci cj ck]) wv_13.drew wv_18 /\
 EX blks wv_13.drew wv_18 /\ ∃ wv_19, Stores P 53 ⟨a8, 0, none⟩ (.agg #[.bool cl, .slice cm cn co, .slice cp cq cr]) wv_18 wv_19 /\
 ∃ r0_5 cs ct cu, Loads P 31 ⟨a6, 0, none⟩ (.agg #[.bool r0_5, .slice cs ct cu]) wv_19 /\ ∃ r0_6 cv cw cx cy cz d0, Loads P 53 ⟨a8, 0, none⟩ (.agg #[.bool r0_6, .slice cv cw cx, .slice cy cz d0]) wv_19 /\ R (.tuple #[.agg #[.bool r0_5, .slice cs ct cu], .agg #[.bool r0_6, .slice cv cw cx, .slice cy cz d0], .bool true]) wv_19)) /\
 ((!be) = false ->
 ((!c5) = true ->
 ∃ wv_20, Stores P 31 ⟨a6, 0, none⟩ (.agg #[.bool false, .slice none 0 0]) wv_13 wv_20 /\
 ∃ wv_21, Stores P 53 ⟨a8, 0, none⟩ (.agg #[.bool false, .slice none 0 0, .slice none 0 0]) wv_20 wv_21 /\
 ∃ r0_7 d1 d2 d3, Loads P 31 ⟨a6, 0, none⟩ (.agg #[.bool r0_7, .slice d1 d2 d3]) wv_21 /\ ∃ r0_8 d4 d5 d6 d7 d8 d9, Loads P 53 ⟨a8, 0, none⟩ (.agg #[.bool r0_8, .slice d4 d5 d6, .slice d7 d8 d9]) wv_21 /\ R (.tuple #[.agg #[.bool r0_7, .slice d1 d2 d3], .agg #[.bool r0_8, .slice d4 d5 d6, .slice d7 d8 d9], .bool false]) wv_21) /\
 ((!c5) = false ->
 ∃ blks_1 : List Nat, ∃ da db dc dd, (∀ wv_22, EX blks_1 wv_13.drew wv_22 -> Loads P 31 ⟨ao, 0, none⟩ (.agg #[.bool da, .slice db dc dd]) wv_22) /\ ∃ de df dg dh di dj dk, (∀ wv_23, EX blks_1 wv_13.drew wv_23 -> Loads P 53 ⟨c6, 0, none⟩ (.agg #[.bool de, .slice df dg dh, .slice di dj dk]) wv_23) /\ ∃ wv_24, Stores P 31 ⟨a6, 0, none⟩ (.agg #[.bool da, .slice db dc dd]) wv_13.drew wv_24 /\
 EX blks_1 wv_13.drew wv_24 /\ ∃ wv_25, Stores P 53 ⟨a8, 0, none⟩ (.agg #[.bool de, .slice df dg dh, .slice di dj dk]) wv_24 wv_25 /\
 ∃ r0_9 dl dm dn, Loads P 31 ⟨a6, 0, none⟩ (.agg #[.bool r0_9, .slice dl dm dn]) wv_25 /\ ∃ r0_10 dp dq dr ds dt du, Loads P 53 ⟨a8, 0, none⟩ (.agg #[.bool r0_10, .slice dp dq dr, .slice ds dt du]) wv_25 /\ R (.tuple #[.agg #[.bool r0_9, .slice dl dm dn], .agg #[.bool r0_10, .slice dp dq dr, .slice ds dt du], .bool true]) wv_25)))
theorem impl_RatRest_ret {r0 : Bool} {a : Option Addr} {a0 a1 : Nat} {a2 : Option Addr} {a3 a4 : Nat} {m : Int} (h : impl_RatRest r0 a a0 a1 a2 a3 a4 m w R) : Ret P 271 [.agg #[.bool r0, .slice a a0 a1, .slice a2 a3 a4], .int .i64 m] w R := Ret.of_fsem Tryz.func271 rfl (Eq.mp (show _ = fsem P Tryz.f271 (fun k => []) _ R w from by kernel_rfl) h)
def impl_moneyOf (cur : ByteArray) (units0 : Bool) (a0 : Option Addr) (a1 a2 : Nat) (w : World) (R : Value -> World -> Prop) : Prop :=
 ∀ r wv, New w (.cells ⟨[.bool units0, .slice a0 a1 a2]⟩ 31 (0, 0)) r wv ->
 ∀ a3 a4, New wv (.cells ⟨[.string ByteArray.empty, .bool false, .slice none 0 0]⟩ 33 (0, 0)) a3 a4 ->
 ∃ a5 a6 a7 a8, Loads P 31 ⟨r, 0, none⟩ (.agg #[.bool a5, .slice a6 a7 a8]) a4 /\ ∀ a9 aa, New a4 (.cells ⟨[.string ByteArray.empty, .bool false, .slice none 0 0]⟩ 33 (0, 0)) a9 aa ->
 ∃ wv_3, Stores P 33 ⟨a9, 0, none⟩ (.agg #[.string cur, .bool a5, .slice a6 a7 a8]) aa wv_3 /\
 ∃ ab ac ae af ag, Loads P 33 ⟨a9, 0, none⟩ (.agg #[.string ab, .bool ac, .slice ae af ag]) wv_3 /\ Calls P 69 ⟨[.agg #[.string ab, .bool ac, .slice ae af ag]]⟩ wv_3 fun e ah =>
 ∃ ai, e = .returned (.bool ai) /\
 (ai = true ->
 ∃ aj ak al am an, Loads P 33 ⟨a9, 0, none⟩ (.agg #[.string aj, .bool ak, .slice al am an]) ah /\ ∃ wv_5, Stores P 33 ⟨a3, 0, none⟩ (.agg #[.string aj, .bool ak, .slice al am an]) ah wv_5 /\
 ∃ r0 r1 ao ap aq, Loads P 33 ⟨a3, 0, none⟩ (.agg #[.string r0, .bool r1, .slice ao ap aq]) wv_5 /\ R (.tuple #[.agg #[.string r0, .bool r1, .slice ao ap aq], .bool true]) wv_5) /\
 (ai = false ->
 ∃ wv_6, Stores P 33 ⟨a3, 0, none⟩ (.agg #[.string ByteArray.empty, .bool false, .slice none 0 0]) ah wv_6 /\
 ∃ r0_1 r1_1 ar au av, Loads P 33 ⟨a3, 0, none⟩ (.agg #[.string r0_1, .bool r1_1, .slice ar au av]) wv_6 /\ R (.tuple #[.agg #[.string r0_1, .bool r1_1, .slice ar au av], .bool false]) wv_6)
theorem impl_moneyOf_ret {a : ByteArray} {a0 : Bool} {a1 : Option Addr} {a2 a3 : Nat} (h : impl_moneyOf a a0 a1 a2 a3 w R) : Ret P 272 [.string a, .agg #[.bool a0, .slice a1 a2 a3]] w R := Ret.of_fsem Tryz.func272 rfl (Eq.mp (show _ = fsem P Tryz.f272 (fun k => []) _ R w from by kernel_rfl) h)
def spec_l03Small (a0 : Option Addr) (a1 a2 : Nat) (d : Int) (w : World) (R : Value -> World -> Prop) : Prop :=
 (0 <= (((a1 : Nat) : Int) : Int) /\ (((a1 : Nat) : Int) : Int) <= ((a1 : Nat) : Int) /\ ((8 : Nat) : Int) * ((a1 : Nat) : Int) <= 281474976710656) /\
 ∀ r wv, New w (.cells ⟨zeroRow (.int .i64 0) (a1 * 1)⟩ 3 (0, 0)) r wv ->
 ∃ a3 : Int, a3 = IntKind.wrap .i64 (((a1 : Nat) : Int) - 1) /\ ∃ (a4 : Int -> Int -> World -> Prop) (mu : Int -> Int -> World -> Nat), a4 0 a3 wv /\
 ∀ (a5 : Fr) (a6 : World) (rest i : Int), a4 rest i a6 ->
 ((decide ((0 : Int) <= i)) = true ->
 ∃ a7 : Int, a7 = IntKind.wrap .i64 (rest * 1000000000) /\ (0 <= (i : Int) /\ (i : Int) < (a1 : Nat)) /\ ptrS a0 fun ad => ∃ a8, Loads P 3 (ad.add (i.toNat * 1)) (.int .i64 a8) a6 /\ ∃ a9 : Int, a9 = IntKind.wrap .i64 (a7 + a8) /\ (d : Int) ≠ 0 /\ ∃ aa : Int, aa = IntKind.wrap .i64 (Int.tdiv a9 d) /\ (0 <= (i : Int) /\ (i : Int) < (a1 : Nat)) /\ ∃ wv_2, Stores P 3 ((⟨r, 0, none⟩ : Addr).add (i.toNat * 1)) (.int .i64 aa) a6 wv_2 /\
 (d : Int) ≠ 0 /\ ∃ ab : Int, ab = Int.tmod a9 d /\ ∃ ac : Int, ac = IntKind.wrap .i64 (i - 1) /\ a4 ab ac wv_2 /\ mu ab ac wv_2 < mu rest i a6) /\
 ((decide ((0 : Int) <= i)) = false ->
 Calls P 243 ⟨[(.slice (some ⟨r, 0, none⟩) a1 a1)]⟩ a6 fun e ae =>
 ∃ af ag ah, e = .returned (.slice af ag ah) /\
 R (.tuple #[.slice af ag ah, .int .i64 rest]) ae)
theorem spec_l03Small_ret {a : Option Addr} {a0 a1 : Nat} {d : Int} (h : spec_l03Small a a0 a1 d w R) : Ret P 273 [.slice a a0 a1, .int .i64 d] w R := Ret.of_fsem Tryz.func273 rfl (Eq.mp (show _ = fsem P Tryz.f273 (fun k => cond (Nat.beq k 5) [(7, .one (.int .i64)), (8, .one (.int .i64))] ([])) _ R w from by kernel_rfl) h)
def spec_l03Digit (a0 : Option Addr) (a1 a2 : Nat) (a3 : Option Addr) (a4 a5 : Nat) (w : World) (R : Value -> World -> Prop) : Prop :=
 ∃ (a6 : Int -> Int -> World -> Prop) (mu : Int -> Int -> World -> Nat), a6 0 999999999 w /\
 ∀ (a7 : Fr) (wv : World) (lo hi : Int), a6 lo hi wv ->
 ((decide ((lo : Int) < hi)) = true ->
 ∃ a8 : Int, a8 = IntKind.wrap .i64 (lo + hi) /\ ∃ a9 : Int, a9 = IntKind.wrap .i64 (a8 + 1) /\ (2 : Int) ≠ 0 /\ ∃ aa : Int, aa = IntKind.wrap .i64 (Int.tdiv a9 2) /\ Calls P 221 ⟨[.int .i64 aa]⟩ wv fun e ab =>
 ∃ ac ae af, e = .returned (.slice ac ae af) /\
 Calls P 175 ⟨[.slice a3 a4 a5, .slice ac ae af]⟩ ab fun ag ah =>
 ∃ ai aj ak, ag = .returned (.slice ai aj ak) /\
 Calls P 222 ⟨[.slice ai aj ak, .slice a0 a1 a2]⟩ ah fun al am =>
 ∃ an, al = .returned (.int .i64 an) /\
 ((decide ((an : Int) <= 0)) = true ->
 a6 aa hi am /\ mu aa hi am < mu lo hi wv) /\
 ((decide ((an : Int) <= 0)) = false ->
 ∃ ao : Int, ao = IntKind.wrap .i64 (aa - 1) /\ a6 lo ao am /\ mu lo ao am < mu lo hi wv)) /\
 ((decide ((lo : Int) < hi)) = false ->
 R (.int .i64 lo) wv)
theorem spec_l03Digit_ret {a : Option Addr} {a0 a1 : Nat} {a2 : Option Addr} {a3 a4 : Nat} (h : spec_l03Digit a a0 a1 a2 a3 a4 w R) : Ret P 274 [.slice a a0 a1, .slice a2 a3 a4] w R := Ret.of_fsem Tryz.func274 rfl (Eq.mp (show _ = fsem P Tryz.f274 (fun k => cond (Nat.beq k 4) [(5, .one (.int .i64)), (6, .one (.int .i64))] ([])) _ R w from by kernel_rfl) h)
def impl_MoneyAdd (m0 : ByteArray) (m1 : Bool) (a0 : Option Addr) (a1 a2 : Nat) (n0 : ByteArray) (n1 : Bool) (a3 : Option Addr) (a4 a5 : Nat) (w : World) (R : Value -> World -> Prop) : Prop :=
 ∀ r wv, New w (.cells ⟨[.string m0, .bool m1, .slice a0 a1 a2]⟩ 33 (0, 0)) r wv ->
 ∀ a6 a7, New wv (.cells ⟨[.string n0, .bool n1, .slice a3 a4 a5]⟩ 33 (0, 0)) a6 a7 ->
 ∀ a8 a9, New a7 (.cells ⟨[.string ByteArray.empty, .bool false, .slice none 0 0]⟩ 33 (0, 0)) a8 a9 ->
 ∃ aa ab ac ae af, Loads P 33 ⟨r, 0, none⟩ (.agg #[.string aa, .bool ab, .slice ac ae af]) a9 /\ ∃ ag ah ai aj ak, Loads P 33 ⟨a6, 0, none⟩ (.agg #[.string ag, .bool ah, .slice ai aj ak]) a9 /\ Calls P 143 ⟨[.agg #[.string aa, .bool ab, .slice ac ae af], .agg #[.string ag, .bool ah, .slice ai aj ak]]⟩ a9 fun e al =>
 ∃ t8, e = .returned (.bool t8) /\
 ((!t8) = true ->
 ∃ wv_4, Stores P 33 ⟨a8, 0, none⟩ (.agg #[.string ByteArray.empty, .bool false, .slice none 0 0]) al wv_4 /\
 ∃ r0 r1 am an ao, Loads P 33 ⟨a8, 0, none⟩ (.agg #[.string r0, .bool r1, .slice am an ao]) wv_4 /\ R (.tuple #[.agg #[.string r0, .bool r1, .slice am an ao], .bool false]) wv_4) /\
 ((!t8) = false ->
 ∃ ap, (∀ wv_5, Ext al.drew wv_5 -> Loads P 9 ((⟨r, 0, none⟩ : Addr).add 0) (.string ap) wv_5) /\ ∃ aq ar au av, (∀ wv_6, Ext al.drew wv_6 -> Loads P 31 ((⟨r, 0, none⟩ : Addr).add 1) (.agg #[.bool aq, .slice ar au av]) wv_6) /\ ∃ aw ax ay az, (∀ wv_7, Ext al.drew wv_7 -> Loads P 31 ((⟨a6, 0, none⟩ : Addr).add 1) (.agg #[.bool aw, .slice ax ay az]) wv_7) /\ Calls P 121 ⟨[.agg #[.bool aq, .slice ar au av], .agg #[.bool aw, .slice ax ay az]]⟩ al.drew fun b0 b1 =>
 ∃ b2 b3 b4 b5, b0 = .returned (.agg #[.bool b2, .slice b3 b4 b5]) /\
 Ext al.drew b1 /\ Calls P 272 ⟨[.string ap, .agg #[.bool b2, .slice b3 b4 b5]]⟩ b1 fun b6 b7 =>
 ∃ b8 b9 ba bb bc bd, b6 = .returned (.tuple #[.agg #[.string b8, .bool b9, .slice ba bb bc], .bool bd]) /\
 ∃ wv_10, Stores P 33 ⟨a8, 0, none⟩ (.agg #[.string b8, .bool b9, .slice ba bb bc]) b7 wv_10 /\
 ∃ r0_1 r1_1 be bf bg, Loads P 33 ⟨a8, 0, none⟩ (.agg #[.string r0_1, .bool r1_1, .slice be bf bg]) wv_10 /\ R (.tuple #[.agg #[.string r0_1, .bool r1_1, .slice be bf bg], .bool bd]) wv_10)
theorem impl_MoneyAdd_ret {m0 : ByteArray} {m1 : Bool} {a : Option Addr} {a0 a1 : Nat} {n0 : ByteArray} {n1 : Bool} {a2 : Option Addr} {a3 a4 : Nat} (h : impl_MoneyAdd m0 m1 a a0 a1 n0 n1 a2 a3 a4 w R) : Ret P 275 [.agg #[.string m0, .bool m1, .slice a a0 a1], .agg #[.string n0, .bool n1, .slice a2 a3 a4]] w R := Ret.of_fsem Tryz.func275 rfl (Eq.mp (show _ = fsem P Tryz.f275 (fun k => []) _ R w from by kernel_rfl) h)
def impl_MoneySub (m0 : ByteArray) (m1 : Bool) (a0 : Option Addr) (a1 a2 : Nat) (n0 : ByteArray) (n1 : Bool) (a3 : Option Addr) (a4 a5 : Nat) (w : World) (R : Value -> World -> Prop) : Prop :=
 ∀ r wv, New w (.cells ⟨[.string m0, .bool m1, .slice a0 a1 a2]⟩ 33 (0, 0)) r wv ->
 ∀ a6 a7, New wv (.cells ⟨[.string n0, .bool n1, .slice a3 a4 a5]⟩ 33 (0, 0)) a6 a7 ->
 ∀ a8 a9, New a7 (.cells ⟨[.string ByteArray.empty, .bool false, .slice none 0 0]⟩ 33 (0, 0)) a8 a9 ->
 ∃ aa ab ac ae af, Loads P 33 ⟨r, 0, none⟩ (.agg #[.string aa, .bool ab, .slice ac ae af]) a9 /\ ∃ ag ah ai aj ak, Loads P 33 ⟨a6, 0, none⟩ (.agg #[.string ag, .bool ah, .slice ai aj ak]) a9 /\ Calls P 143 ⟨[.agg #[.string aa, .bool ab, .slice ac ae af], .agg #[.string ag, .bool ah, .slice ai aj ak]]⟩ a9 fun e al =>
 ∃ t8, e = .returned (.bool t8) /\
 ((!t8) = true ->
 ∃ wv_4, Stores P 33 ⟨a8, 0, none⟩ (.agg #[.string ByteArray.empty, .bool false, .slice none 0 0]) al wv_4 /\
 ∃ r0 r1 am an ao, Loads P 33 ⟨a8, 0, none⟩ (.agg #[.string r0, .bool r1, .slice am an ao]) wv_4 /\ R (.tuple #[.agg #[.string r0, .bool r1, .slice am an ao], .bool false]) wv_4) /\
 ((!t8) = false ->
 ∃ ap, (∀ wv_5, Ext al.drew wv_5 -> Loads P 9 ((⟨r, 0, none⟩ : Addr).add 0) (.string ap) wv_5) /\ ∃ aq ar au av, (∀ wv_6, Ext al.drew wv_6 -> Loads P 31 ((⟨r, 0, none⟩ : Addr).add 1) (.agg #[.bool aq, .slice ar au av]) wv_6) /\ ∃ aw ax ay az, (∀ wv_7, Ext al.drew wv_7 -> Loads P 31 ((⟨a6, 0, none⟩ : Addr).add 1) (.agg #[.bool aw, .slice ax ay az]) wv_7) /\ Calls P 226 ⟨[.agg #[.bool aw, .slice ax ay az]]⟩ al.drew fun b0 b1 =>
 ∃ b2 b3 b4 b5, b0 = .returned (.agg #[.bool b2, .slice b3 b4 b5]) /\
 Ext al.drew b1 /\ Calls P 121 ⟨[.agg #[.bool aq, .slice ar au av], .agg #[.bool b2, .slice b3 b4 b5]]⟩ b1 fun b6 b7 =>
 ∃ b8 b9 ba bb, b6 = .returned (.agg #[.bool b8, .slice b9 ba bb]) /\
 Ext b1 b7 /\ Calls P 272 ⟨[.string ap, .agg #[.bool b8, .slice b9 ba bb]]⟩ b7 fun bc bd =>
 ∃ be bf bg bh bi bj, bc = .returned (.tuple #[.agg #[.string be, .bool bf, .slice bg bh bi], .bool bj]) /\
 ∃ wv_11, Stores P 33 ⟨a8, 0, none⟩ (.agg #[.string be, .bool bf, .slice bg bh bi]) bd wv_11 /\
 ∃ r0_1 r1_1 bk bl bm, Loads P 33 ⟨a8, 0, none⟩ (.agg #[.string r0_1, .bool r1_1, .slice bk bl bm]) wv_11 /\ R (.tuple #[.agg #[.string r0_1, .bool r1_1, .slice bk bl bm], .bool bj]) wv_11)
theorem impl_MoneySub_ret {m0 : ByteArray} {m1 : Bool} {a : Option Addr} {a0 a1 : Nat} {n0 : ByteArray} {n1 : Bool} {a2 : Option Addr} {a3 a4 : Nat} (h : impl_MoneySub m0 m1 a a0 a1 n0 n1 a2 a3 a4 w R) : Ret P 276 [.agg #[.string m0, .bool m1, .slice a a0 a1], .agg #[.string n0, .bool n1, .slice a2 a3 a4]] w R := Ret.of_fsem Tryz.func276 rfl (Eq.mp (show _ = fsem P Tryz.f276 (fun k => []) _ R w from by kernel_rfl) h)
def spec_l06Away (neg : Bool) (a0 : Option Addr) (a1 a2 : Nat) (a3 : Option Addr) (a4 a5 : Nat) (a6 : Option Addr) (a7 a8 : Nat) (m : Int) (w : World) (R : Value -> World -> Prop) : Prop :=
 Calls P 244 ⟨[.slice a3 a4 a5, .slice a3 a4 a5]⟩ w fun e wv =>
 ∃ a9 aa ab, e = .returned (.slice a9 aa ab) /\
 Calls P 222 ⟨[.slice a9 aa ab, .slice a6 a7 a8]⟩ wv fun ac ae =>
 ∃ af, ac = .returned (.int .i64 af) /\
 ((decide ((m : Int) = 0)) = true ->
 R (.bool false) ae) /\
 ((decide ((m : Int) = 0)) = false ->
 ((decide ((m : Int) = 1)) = true ->
 R (.bool true) ae) /\
 ((decide ((m : Int) = 1)) = false ->
 ((decide ((m : Int) = 2)) = true ->
 R (.bool neg) ae) /\
 ((decide ((m : Int) = 2)) = false ->
 ((decide ((m : Int) = 3)) = true ->
 R (.bool (!neg)) ae) /\
 ((decide ((m : Int) = 3)) = false ->
 ((decide ((m : Int) = 4)) = true ->
 R (.bool (decide ((0 : Int) < af))) ae) /\
 ((decide ((m : Int) = 4)) = false ->
 ((decide ((m : Int) = 5)) = true ->
 R (.bool (decide ((0 : Int) <= af))) ae) /\
 ((decide ((m : Int) = 5)) = false ->
 ((decide ((0 : Int) < af)) = true ->
 R (.bool true) ae) /\
 ((decide ((0 : Int) < af)) = false ->
 ((decide ((af : Int) = 0)) = true ->
 Calls P 302 ⟨[.slice a0 a1 a2]⟩ ae fun ag ah =>
 ∃ ai, ag = .returned (.bool ai) /\
 R (.bool (!ai)) ah) /\
 ((decide ((af : Int) = 0)) = false ->
 R (.bool false) ae))))))))
theorem spec_l06Away_ret {a : Bool} {a0 : Option Addr} {a1 a2 : Nat} {a3 : Option Addr} {a4 a5 : Nat} {a6 : Option Addr} {a7 a8 : Nat} {m : Int} (h : spec_l06Away a a0 a1 a2 a3 a4 a5 a6 a7 a8 m w R) : Ret P 277 [.bool a, .slice a0 a1 a2, .slice a3 a4 a5, .slice a6 a7 a8, .int .i64 m] w R := Ret.of_fsem Tryz.func277 rfl (Eq.mp (show _ = fsem P Tryz.f277 (fun k => []) _ R w from by kernel_rfl) h)
def spec_RatSub (r0 : Bool) (a0 : Option Addr) (a1 a2 : Nat) (a3 : Option Addr) (a4 a5 : Nat) (s0 : Bool) (a6 : Option Addr) (a7 a8 : Nat) (a9 : Option Addr) (aa ab : Nat) (w : World) (R : Value -> World -> Prop) : Prop :=
 ∀ r wv, New w (.cells ⟨[.bool r0, .slice a0 a1 a2, .slice a3 a4 a5]⟩ 53 (0, 0)) r wv ->
 ∀ ac ae, New wv (.cells ⟨[.bool s0, .slice a6 a7 a8, .slice a9 aa ab]⟩ 53 (0, 0)) ac ae ->
 ∀ af ag, New ae (.cells ⟨[.bool false, .slice none 0 0, .slice none 0 0]⟩ 53 (0, 0)) af ag ->
 ∃ ah ai aj ak al am an, Loads P 53 ⟨ac, 0, none⟩ (.agg #[.bool ah, .slice ai aj ak, .slice al am an]) ag /\ Calls P 235 ⟨[.agg #[.bool ah, .slice ai aj ak, .slice al am an]]⟩ ag fun e ao =>
 ∃ ap aq ar au av aw ax ay, e = .returned (.tuple #[.agg #[.bool ap, .slice aq ar au, .slice av aw ax], .bool ay]) /\
 ∀ az b0, New ao (.cells ⟨[.bool false, .slice none 0 0, .slice none 0 0]⟩ 53 (0, 0)) az b0 ->
 ∃ wv_5, Stores P 53 ⟨az, 0, none⟩ (.agg #[.bool ap, .slice aq ar au, .slice av aw ax]) b0 wv_5 /\
 ((!ay) = true ->
 ∃ wv_6, Stores P 53 ⟨af, 0, none⟩ (.agg #[.bool false, .slice none 0 0, .slice none 0 0]) wv_5 wv_6 /\
 ∃ r0_1 b1 b2 b3 b4 b5 b6, Loads P 53 ⟨af, 0, none⟩ (.agg #[.bool r0_1, .slice b1 b2 b3, .slice b4 b5 b6]) wv_6 /\ R (.tuple #[.agg #[.bool r0_1, .slice b1 b2 b3, .slice b4 b5 b6], .bool false]) wv_6) /\
 ((!ay) = false ->
 ∃ b7 b8 b9 ba bb bc bd, Loads P 53 ⟨r, 0, none⟩ (.agg #[.bool b7, .slice b8 b9 ba, .slice bb bc bd]) wv_5 /\ ∃ be bf bg bh bi bj bk, Loads P 53 ⟨az, 0, none⟩ (.agg #[.bool be, .slice bf bg bh, .slice bi bj bk]) wv_5 /\ Calls P 77 ⟨[.agg #[.bool b7, .slice b8 b9 ba, .slice bb bc bd], .agg #[.bool be, .slice bf bg bh, .slice bi bj bk]]⟩ wv_5 fun bl bm =>
 ∃ bn bo bp bq br bs bt bu, bl = .returned (.tuple #[.agg #[.bool bn, .slice bo bp bq, .slice br bs bt], .bool bu]) /\
 ∃ wv_8, Stores P 53 ⟨af, 0, none⟩ (.agg #[.bool bn, .slice bo bp bq, .slice br bs bt]) bm wv_8 /\
 ∃ r0_2 bv bw bx bz c0 c1, Loads P 53 ⟨af, 0, none⟩ (.agg #[.bool r0_2, .slice bv bw bx, .slice bz c0 c1]) wv_8 /\ R (.tuple #[.agg #[.bool r0_2, .slice bv bw bx, .slice bz c0 c1], .bool bu]) wv_8)
theorem spec_RatSub_ret {r0 : Bool} {a : Option Addr} {a0 a1 : Nat} {a2 : Option Addr} {a3 a4 : Nat} {s0 : Bool} {a5 : Option Addr} {a6 a7 : Nat} {a8 : Option Addr} {a9 b : Nat} (h : spec_RatSub r0 a a0 a1 a2 a3 a4 s0 a5 a6 a7 a8 a9 b w R) : Ret P 278 [.agg #[.bool r0, .slice a a0 a1, .slice a2 a3 a4], .agg #[.bool s0, .slice a5 a6 a7, .slice a8 a9 b]] w R := Ret.of_fsem Tryz.func278 rfl (Eq.mp (show _ = fsem P Tryz.f278 (fun k => []) _ R w from by kernel_rfl) h)
def impl_subTimes_j0 (a0 : Option Addr) (a1 : Nat) (wv : World) (a2 : Int -> Int -> World -> Prop) (mu : Int -> Int -> World -> Nat) (borrow a3 : Int) (borrow_1 n : Int) (W : World) (R : Value -> World -> Prop) : Prop :=
 (0 <= (a3 : Int) /\ (a3 : Int) < (a1 : Nat)) /\ ptrS a0 fun a4 => ∃ wv_1, Stores P 3 (a4.add (a3.toNat * 1)) (.int .i64 n) W wv_1 /\
 ∃ a5 : Int, a5 = IntKind.wrap .i64 (a3 + 1) /\ a2 borrow_1 a5 wv_1 /\ mu borrow_1 a5 wv_1 < mu borrow a3 wv
def impl_subTimes (a0 : Option Addr) (a1 a2 : Nat) (a3 : Option Addr) (a4 a5 : Nat) (q : Int) (w : World) (R : Value -> World -> Prop) : Prop :=
 ∃ (a6 : Int -> Int -> World -> Prop) (mu : Int -> Int -> World -> Nat), a6 0 0 w /\
 ∀ (a7 : Fr) (wv : World) (borrow a8 : Int), a6 borrow a8 wv ->
 ((decide ((a8 : Int) < ((a4 : Nat) : Int))) = true ->
 (0 <= (a8 : Int) /\ (a8 : Int) < (a4 : Nat)) /\ ptrS a3 fun ad => ∃ a9, Loads P 3 (ad.add (a8.toNat * 1)) (.int .i64 a9) wv /\ (0 <= (a8 : Int) /\ (a8 : Int) < (a1 : Nat)) /\ ptrS a0 fun aa => ∃ ab, Loads P 3 (aa.add (a8.toNat * 1)) (.int .i64 ab) wv /\ ∃ ac : Int, ac = IntKind.wrap .i64 (a9 * q) /\ ∃ ae : Int, ae = IntKind.wrap .i64 (ab - ac) /\ ∃ af : Int, af = IntKind.wrap .i64 (ae - borrow) /\ ((decide ((af : Int) < 0)) = true ->
 ∃ ag : Int, ag = IntKind.wrap .i64 (0 - af) /\ ∃ ah : Int, ah = IntKind.wrap .i64 (ag + 1000000000) /\ ∃ ai : Int, ai = IntKind.wrap .i64 (ah - 1) /\ (1000000000 : Int) ≠ 0 /\ ∃ aj : Int, aj = IntKind.wrap .i64 (Int.tdiv ai 1000000000) /\ ∃ ak : Int, ak = IntKind.wrap .i64 (aj * 1000000000) /\ ∃ al : Int, al = IntKind.wrap .i64 (af + ak) /\ impl_subTimes_j0 a0 a1 wv a6 mu borrow a8 aj al wv R) /\
 ((decide ((af : Int) < 0)) = false ->
 impl_subTimes_j0 a0 a1 wv a6 mu borrow a8 0 af wv R)) /\
 ((decide ((a8 : Int) < ((a4 : Nat) : Int))) = false ->
 (0 <= (((a4 : Nat) : Int) : Int) /\ (((a4 : Nat) : Int) : Int) < (a1 : Nat)) /\ ptrS a0 fun am => ∃ an, Loads P 3 (am.add (a4 * 1)) (.int .i64 an) wv /\ ∃ ao : Int, ao = IntKind.wrap .i64 (an - borrow) /\ (0 <= (((a4 : Nat) : Int) : Int) /\ (((a4 : Nat) : Int) : Int) < (a1 : Nat)) /\ ptrS a0 fun ap => ∃ wv_2, Stores P 3 (ap.add (a4 * 1)) (.int .i64 ao) wv wv_2 /\
 (0 <= (((a4 : Nat) : Int) : Int) /\ (((a4 : Nat) : Int) : Int) < (a1 : Nat)) /\ ptrS a0 fun aq => ∃ ar, Loads P 3 (aq.add (a4 * 1)) (.int .i64 ar) wv_2 /\ R (.bool (decide ((ar : Int) < 0))) wv_2)
theorem impl_subTimes_ret {a : Option Addr} {a0 a1 : Nat} {a2 : Option Addr} {a3 a4 : Nat} {q : Int} (h : impl_subTimes a a0 a1 a2 a3 a4 q w R) : Ret P 279 [.slice a a0 a1, .slice a2 a3 a4, .int .i64 q] w R := Ret.of_fsem Tryz.func279 rfl (Eq.mp (show _ = fsem P Tryz.f279 (fun k => cond (Nat.beq k 4) [(7, .one (.int .i64)), (13, .one (.int .i64))] ([])) _ R w from by kernel_rfl) h)
def impl_addBack (a0 : Option Addr) (a1 a2 : Nat) (a3 : Option Addr) (a4 a5 : Nat) (w : World) (R : Value -> World -> Prop) : Prop :=
 ∃ (a6 : Int -> Int -> World -> Prop) (mu : Int -> Int -> World -> Nat), a6 0 0 w /\
 ∀ (a7 : Fr) (wv : World) (carry t9 : Int), a6 carry t9 wv ->
 ((decide ((t9 : Int) < ((a4 : Nat) : Int))) = true ->
 (0 <= (t9 : Int) /\ (t9 : Int) < (a4 : Nat)) /\ ptrS a3 fun ad => ∃ a8, Loads P 3 (ad.add (t9.toNat * 1)) (.int .i64 a8) wv /\ (0 <= (t9 : Int) /\ (t9 : Int) < (a1 : Nat)) /\ ptrS a0 fun a9 => ∃ aa, Loads P 3 (a9.add (t9.toNat * 1)) (.int .i64 aa) wv /\ ∃ ab : Int, ab = IntKind.wrap .i64 (aa + a8) /\ ∃ ac : Int, ac = IntKind.wrap .i64 (carry + ab) /\ (1000000000 : Int) ≠ 0 /\ ∃ ae : Int, ae = Int.tmod ac 1000000000 /\ (0 <= (t9 : Int) /\ (t9 : Int) < (a1 : Nat)) /\ ptrS a0 fun af => ∃ wv_1, Stores P 3 (af.add (t9.toNat * 1)) (.int .i64 ae) wv wv_1 /\
 (1000000000 : Int) ≠ 0 /\ ∃ ag : Int, ag = IntKind.wrap .i64 (Int.tdiv ac 1000000000) /\ ∃ ah : Int, ah = IntKind.wrap .i64 (t9 + 1) /\ a6 ag ah wv_1 /\ mu ag ah wv_1 < mu carry t9 wv) /\
 ((decide ((t9 : Int) < ((a4 : Nat) : Int))) = false ->
 (0 <= (((a4 : Nat) : Int) : Int) /\ (((a4 : Nat) : Int) : Int) < (a1 : Nat)) /\ ptrS a0 fun ai => ∃ aj, Loads P 3 (ai.add (a4 * 1)) (.int .i64 aj) wv /\ ∃ ak : Int, ak = IntKind.wrap .i64 (aj + carry) /\ (0 <= (((a4 : Nat) : Int) : Int) /\ (((a4 : Nat) : Int) : Int) < (a1 : Nat)) /\ ptrS a0 fun al => ∃ wv_2, Stores P 3 (al.add (a4 * 1)) (.int .i64 ak) wv wv_2 /\
 R (.tuple #[]) wv_2)
theorem impl_addBack_ret {a : Option Addr} {a0 a1 : Nat} {a2 : Option Addr} {a3 a4 : Nat} (h : impl_addBack a a0 a1 a2 a3 a4 w R) : Ret P 280 [.slice a a0 a1, .slice a2 a3 a4] w R := Ret.of_fsem Tryz.func280 rfl (Eq.mp (show _ = fsem P Tryz.f280 (fun k => cond (Nat.beq k 3) [(4, .one (.int .i64)), (9, .one (.int .i64))] ([])) _ R w from by kernel_rfl) h)
end Go.Proofs.YtfehpaekbbmkcaaGreatDoor
namespace Go.Proofs.YtfehpaekbbmkcaaGreatDoor
variable {w : World} {R : Value -> World -> Prop}
open Go Go.Proofs.YtfehpaekbbmkcaaGreatDoor.Sx
set_option maxRecDepth 100000
def spec_NatTen (k : Int) (w : World) (R : Value -> World -> Prop) : Prop :=
 Calls P 125 ⟨[.int .i64 k, .int .i64 0, .int .i64 449]⟩ w fun e wv =>
 ∃ t7, e = .returned (.bool t7) /\
 ((!t7) = true ->
 R (.slice none 0 0) wv) /\
 ((!t7) = false ->
 (9 : Int) ≠ 0 /\ ∃ a0 : Int, a0 = IntKind.wrap .i64 (Int.tdiv k 9) /\ (0 <= (a0 : Int) /\ (a0 : Int) <= a0 /\ ((8 : Nat) : Int) * a0 <= 281474976710656) /\
 ∀ r a1, New wv (.cells ⟨zeroRow (.int .i64 0) (a0.toNat * 1)⟩ 3 (0, 0)) r a1 ->
 ∃ (a2 : Int -> Int -> World -> Prop) (mu : Int -> Int -> World -> Nat), a2 1 0 a1 /\
 ∀ (a3 : Fr) (a4 : World) (f i : Int), a2 f i a4 ->
 (9 : Int) ≠ 0 /\ ∃ a5 : Int, a5 = Int.tmod k 9 /\ ((decide ((i : Int) < a5)) = true ->
 ∃ a6 : Int, a6 = IntKind.wrap .i64 (f * 10) /\ ∃ a7 : Int, a7 = IntKind.wrap .i64 (i + 1) /\ a2 a6 a7 a4 /\ mu a6 a7 a4 < mu f i a4) /\
 ((decide ((i : Int) < a5)) = false ->
 ∀ a8 a9, New a4 (.cells ⟨[.int .i64 f]⟩ 3 (0, 0)) a8 a9 ->
 ∃ aa ab ac ae, Appends P [22, 22] [(.slice (some ⟨r, 0, none⟩) a0.toNat a0.toNat), (.slice (some ⟨a8, 0, none⟩) 1 1)] (.slice aa ab ac) a9 ae /\
 R (.slice aa ab ac) ae))
theorem spec_NatTen_ret {k : Int} (h : spec_NatTen k w R) : Ret P 284 [.int .i64 k] w R := Ret.of_fsem Tryz.func284 rfl (Eq.mp (show _ = fsem P Tryz.f284 (fun k => cond (Nat.beq k 7) [(4, .one (.int .i64)), (5, .one (.int .i64))] ([])) _ R w from by kernel_rfl) h)
def impl_RatRound (r0 : Bool) (a0 : Option Addr) (a1 a2 : Nat) (a3 : Option Addr) (a4 a5 : Nat) (m : Int) (w : World) (R : Value -> World -> Prop) : Prop :=
 ∀ r wv, New w (.cells ⟨[.bool r0, .slice a0 a1 a2, .slice a3 a4 a5]⟩ 53 (0, 0)) r wv ->
 ∀ a6 a7, New wv (.cells ⟨[.bool false, .slice none 0 0]⟩ 31 (0, 0)) a6 a7 ->
 ∃ a8 a9 aa ab ac ae af, Loads P 53 ⟨r, 0, none⟩ (.agg #[.bool a8, .slice a9 aa ab, .slice ac ae af]) a7 /\ Calls P 85 ⟨[.agg #[.bool a8, .slice a9 aa ab, .slice ac ae af]]⟩ a7 fun e ag =>
 ∃ t7, e = .returned (.bool t7) /\
 ((!t7) = true ->
 (true = true ->
 ∃ wv_3, Stores P 31 ⟨a6, 0, none⟩ (.agg #[.bool false, .slice none 0 0]) ag wv_3 /\
 ∃ r0_1 ah ai aj, Loads P 31 ⟨a6, 0, none⟩ (.agg #[.bool r0_1, .slice ah ai aj]) wv_3 /\ R (.tuple #[.agg #[.bool r0_1, .slice ah ai aj], .bool false]) wv_3) /\
 (true = false ->
 ∃ ak al am an, Loads P 31 ((⟨r, 0, none⟩ : Addr).add 0) (.agg #[.bool ak, .slice al am an]) ag /\ ∃ ao ap aq, Loads P 22 ((⟨r, 0, none⟩ : Addr).add 2) (.slice ao ap aq) ag /\ Calls P 329 ⟨[.agg #[.bool ak, .slice al am an], .slice ao ap aq, .int .i64 m]⟩ ag fun ar au =>
 ∃ av aw ax ay, ar = .returned (.agg #[.bool av, .slice aw ax ay]) /\
 ∃ wv_5, Stores P 31 ⟨a6, 0, none⟩ (.agg #[.bool av, .slice aw ax ay]) au wv_5 /\
 ∃ r0_2 az b0 b1, Loads P 31 ⟨a6, 0, none⟩ (.agg #[.bool r0_2, .slice az b0 b1]) wv_5 /\ R (.tuple #[.agg #[.bool r0_2, .slice az b0 b1], .bool true]) wv_5)) /\
 ((!t7) = false ->
 Calls P 133 ⟨[.int .i64 m]⟩ ag fun b2 b3 =>
 ∃ b4, b2 = .returned (.bool b4) /\
 ((!b4) = true ->
 ∃ wv_7, Stores P 31 ⟨a6, 0, none⟩ (.agg #[.bool false, .slice none 0 0]) b3 wv_7 /\
 ∃ r0_3 b5 b6 b7, Loads P 31 ⟨a6, 0, none⟩ (.agg #[.bool r0_3, .slice b5 b6 b7]) wv_7 /\ R (.tuple #[.agg #[.bool r0_3, .slice b5 b6 b7], .bool false]) wv_7) /\
 ((!b4) = false ->
 ∃ b8 b9 ba bb, Loads P 31 ((⟨r, 0, none⟩ : Addr).add 0) (.agg #[.bool b8, .slice b9 ba bb]) b3 /\ ∃ bc bd be, Loads P 22 ((⟨r, 0, none⟩ : Addr).add 2) (.slice bc bd be) b3 /\ Calls P 329 ⟨[.agg #[.bool b8, .slice b9 ba bb], .slice bc bd be, .int .i64 m]⟩ b3 fun bf bg =>
 ∃ bh bi bj bk, bf = .returned (.agg #[.bool bh, .slice bi bj bk]) /\
 ∃ wv_9, Stores P 31 ⟨a6, 0, none⟩ (.agg #[.bool bh, .slice bi bj bk]) bg wv_9 /\
 ∃ r0_4 bl bm bn, Loads P 31 ⟨a6, 0, none⟩ (.agg #[.bool r0_4, .slice bl bm bn]) wv_9 /\ R (.tuple #[.agg #[.bool r0_4, .slice bl bm bn], .bool true]) wv_9))
theorem impl_RatRound_ret {r0 : Bool} {a : Option Addr} {a0 a1 : Nat} {a2 : Option Addr} {a3 a4 : Nat} {m : Int} (h : impl_RatRound r0 a a0 a1 a2 a3 a4 m w R) : Ret P 299 [.agg #[.bool r0, .slice a a0 a1, .slice a2 a3 a4], .int .i64 m] w R := Ret.of_fsem Tryz.func299 rfl (Eq.mp (show _ = fsem P Tryz.f299 (fun k => []) _ R w from by kernel_rfl) h)
def impl_RatInt (x0 : Bool) (a0 : Option Addr) (a1 a2 : Nat) (w : World) (R : Value -> World -> Prop) : Prop :=
 ∀ r wv, New w (.cells ⟨[.bool x0, .slice a0 a1 a2]⟩ 31 (0, 0)) r wv ->
 ∀ a3 a4, New wv (.cells ⟨[.bool false, .slice none 0 0, .slice none 0 0]⟩ 53 (0, 0)) a3 a4 ->
 ∃ a5 a6 a7 a8, (∀ wv_2, Ext a4.drew wv_2 -> Loads P 31 ⟨r, 0, none⟩ (.agg #[.bool a5, .slice a6 a7 a8]) wv_2) /\ Calls P 139 ⟨[.int .i64 1]⟩ a4.drew fun e a9 =>
 ∃ aa ab ac ae, e = .returned (.agg #[.bool aa, .slice ab ac ae]) /\
 Ext a4.drew a9 /\ Calls P 330 ⟨[.agg #[.bool a5, .slice a6 a7 a8], .agg #[.bool aa, .slice ab ac ae]]⟩ a9 fun af ag =>
 ∃ ah ai aj ak al am an t6, af = .returned (.tuple #[.agg #[.bool ah, .slice ai aj ak, .slice al am an], .bool t6]) /\
 ∃ wv_5, Stores P 53 ⟨a3, 0, none⟩ (.agg #[.bool ah, .slice ai aj ak, .slice al am an]) ag wv_5 /\
 ∃ r0 ao ap aq ar au av, Loads P 53 ⟨a3, 0, none⟩ (.agg #[.bool r0, .slice ao ap aq, .slice ar au av]) wv_5 /\ R (.tuple #[.agg #[.bool r0, .slice ao ap aq, .slice ar au av], .bool t6]) wv_5
theorem impl_RatInt_ret {x0 : Bool} {a : Option Addr} {a0 a1 : Nat} (h : impl_RatInt x0 a a0 a1 w R) : Ret P 300 [.agg #[.bool x0, .slice a a0 a1]] w R := Ret.of_fsem Tryz.func300 rfl (Eq.mp (show _ = fsem P Tryz.f300 (fun k => []) _ R w from by kernel_rfl) h)
def impl_RatSub (r0 : Bool) (a0 : Option Addr) (a1 a2 : Nat) (a3 : Option Addr) (a4 a5 : Nat) (s0 : Bool) (a6 : Option Addr) (a7 a8 : Nat) (a9 : Option Addr) (aa ab : Nat) (w : World) (R : Value -> World -> Prop) : Prop :=
 ∀ r wv, New w (.cells ⟨[.bool r0, .slice a0 a1 a2, .slice a3 a4 a5]⟩ 53 (0, 0)) r wv ->
 ∀ ac ae, New wv (.cells ⟨[.bool s0, .slice a6 a7 a8, .slice a9 aa ab]⟩ 53 (0, 0)) ac ae ->
 ∀ af ag, New ae (.cells ⟨[.bool false, .slice none 0 0, .slice none 0 0]⟩ 53 (0, 0)) af ag ->
 ∃ ah ai aj ak al am an, Loads P 53 ⟨r, 0, none⟩ (.agg #[.bool ah, .slice ai aj ak, .slice al am an]) ag /\ ∃ ao ap aq ar au av aw, Loads P 53 ⟨ac, 0, none⟩ (.agg #[.bool ao, .slice ap aq ar, .slice au av aw]) ag /\ Calls P 183 ⟨[.agg #[.bool ah, .slice ai aj ak, .slice al am an], .agg #[.bool ao, .slice ap aq ar, .slice au av aw]]⟩ ag fun e ax =>
 ∃ t8, e = .returned (.bool t8) /\
 ((!t8) = true ->
 ∃ wv_4, Stores P 53 ⟨af, 0, none⟩ (.agg #[.bool false, .slice none 0 0, .slice none 0 0]) ax wv_4 /\
 ∃ r0_1 ay az b0 b1 b2 b3, Loads P 53 ⟨af, 0, none⟩ (.agg #[.bool r0_1, .slice ay az b0, .slice b1 b2 b3]) wv_4 /\ R (.tuple #[.agg #[.bool r0_1, .slice ay az b0, .slice b1 b2 b3], .bool false]) wv_4) /\
 ((!t8) = false ->
 ∃ b4 b5 b6 b7 b8 b9 ba, (∀ wv_5, Ext ax.drew wv_5 -> Loads P 53 ⟨r, 0, none⟩ (.agg #[.bool b4, .slice b5 b6 b7, .slice b8 b9 ba]) wv_5) /\ ∃ bb bc bd be bf bg bh, (∀ wv_6, Ext ax.drew wv_6 -> Loads P 53 ⟨ac, 0, none⟩ (.agg #[.bool bb, .slice bc bd be, .slice bf bg bh]) wv_6) /\ Calls P 331 ⟨[.agg #[.bool bb, .slice bc bd be, .slice bf bg bh]]⟩ ax.drew fun bi bj =>
 ∃ bk bl bm bn bo bp bq, bi = .returned (.agg #[.bool bk, .slice bl bm bn, .slice bo bp bq]) /\
 Ext ax.drew bj /\ Calls P 87 ⟨[.agg #[.bool b4, .slice b5 b6 b7, .slice b8 b9 ba], .agg #[.bool bk, .slice bl bm bn, .slice bo bp bq]]⟩ bj fun br bs =>
 ∃ bt bu bv bw bx bz c0 c1, br = .returned (.tuple #[.agg #[.bool bt, .slice bu bv bw, .slice bx bz c0], .bool c1]) /\
 ∃ wv_9, Stores P 53 ⟨af, 0, none⟩ (.agg #[.bool bt, .slice bu bv bw, .slice bx bz c0]) bs wv_9 /\
 ∃ r0_2 c2 c3 c4 c5 c6 c7, Loads P 53 ⟨af, 0, none⟩ (.agg #[.bool r0_2, .slice c2 c3 c4, .slice c5 c6 c7]) wv_9 /\ R (.tuple #[.agg #[.bool r0_2, .slice c2 c3 c4, .slice c5 c6 c7], .bool c1]) wv_9)
theorem impl_RatSub_ret {r0 : Bool} {a : Option Addr} {a0 a1 : Nat} {a2 : Option Addr} {a3 a4 : Nat} {s0 : Bool} {a5 : Option Addr} {a6 a7 : Nat} {a8 : Option Addr} {a9 b : Nat} (h : impl_RatSub r0 a a0 a1 a2 a3 a4 s0 a5 a6 a7 a8 a9 b w R) : Ret P 301 [.agg #[.bool r0, .slice a a0 a1, .slice a2 a3 a4], .agg #[.bool s0, .slice a5 a6 a7, .slice a8 a9 b]] w R := Ret.of_fsem Tryz.func301 rfl (Eq.mp (show _ = fsem P Tryz.f301 (fun k => []) _ R w from by kernel_rfl) h)
def spec_NatEven (a0 : Option Addr) (a1 a2 : Nat) (w : World) (R : Value -> World -> Prop) : Prop :=
 Calls P 223 ⟨[.slice a0 a1 a2]⟩ w fun e wv =>
 ∃ t4, e = .returned (.bool t4) /\
 (t4 = true ->
 ((decide ((((a1 : Nat) : Int) : Int) = 0)) = true ->
 R (.bool true) wv) /\
 ((decide ((((a1 : Nat) : Int) : Int) = 0)) = false ->
 (0 <= (0 : Int) /\ (0 : Int) < (a1 : Nat)) /\ ptrS a0 fun ad => ∃ a3, Loads P 3 (ad.add (0 * 1)) (.int .i64 a3) wv /\ (2 : Int) ≠ 0 /\ ∃ a4 : Int, a4 = Int.tmod a3 2 /\ R (.bool (decide ((a4 : Int) = 0))) wv)) /\
 (t4 = false ->
 R (.bool false) wv)
theorem spec_NatEven_ret {a : Option Addr} {a0 a1 : Nat} (h : spec_NatEven a a0 a1 w R) : Ret P 302 [.slice a a0 a1] w R := Ret.of_fsem Tryz.func302 rfl (Eq.mp (show _ = fsem P Tryz.f302 (fun k => []) _ R w from by kernel_rfl) h)
def impl_roundQuotient_j0 (r a0 : Nat) (a1 : Option Addr) (a2 a3 : Nat) (W : World) (R : Value -> World -> Prop) : Prop :=
 ∃ a4, Loads P 4 ((⟨r, 0, none⟩ : Addr).add 0) (.bool a4) W /\ Calls P 173 ⟨[.bool a4, .slice a1 a2 a3]⟩ W fun a5 a6 =>
 ∃ a7 a8 a9 aa, a5 = .returned (.agg #[.bool a7, .slice a8 a9 aa]) /\
 ∃ wv_12, Stores P 31 ⟨a0, 0, none⟩ (.agg #[.bool a7, .slice a8 a9 aa]) a6 wv_12 /\
 ∃ r0 ab ac ae, Loads P 31 ⟨a0, 0, none⟩ (.agg #[.bool r0, .slice ab ac ae]) wv_12 /\ R (.agg #[.bool r0, .slice ab ac ae]) wv_12
def impl_roundQuotient (num0 : Bool) (a0 : Option Addr) (a1 a2 : Nat) (a3 : Option Addr) (a4 a5 : Nat) (m : Int) (w : World) (R : Value -> World -> Prop) : Prop :=
 ∀ r wv, New w (.cells ⟨[.bool num0, .slice a0 a1 a2]⟩ 31 (0, 0)) r wv ->
 ∀ a6 a7, New wv (.cells ⟨[.bool false, .slice none 0 0]⟩ 31 (0, 0)) a6 a7 ->
 ∃ a8 a9 aa, Loads P 22 ((⟨r, 0, none⟩ : Addr).add 1) (.slice a8 a9 aa) a7 /\ Calls P 164 ⟨[.slice a8 a9 aa, .slice a3 a4 a5]⟩ a7 fun e ab =>
 ∃ ac ae af ag ah ai, e = .returned (.tuple #[.slice ac ae af, .slice ag ah ai]) /\
 ((decide ((0 : Int) < ((ah : Nat) : Int))) = true ->
 Calls P 350 ⟨[]⟩ ab.drew fun aj ak =>
 ∃ (al : ByteArray) (am : Value) (an : ByteArray) (ao : Value) (ap : ByteArray) (aq : Value) (ar : ByteArray) (au : Value) (av : ByteArray) (aw : Value) (ax : ByteArray) (ay : Value) (az : ByteArray) (b0 : Value), aj = .returned (.agg #[.string al, am, .string an, ao, .string ap, aq, .string ar, au, .string av, aw, .string ax, ay, .string az, b0]) /\
 Ext ab.drew ak /\ indexS P 331 (.agg #[.string al, am, .string an, ao, .string ap, aq, .string ar, au, .string av, aw, .string ax, ay, .string az, b0]) (.int .i64 m) fun (el : Value) => fieldS P 330 el 1 fun (fl : Value) => ∃ b1, (∀ wv_4, Ext ab.drew wv_4 -> Loads P 4 ((⟨r, 0, none⟩ : Addr).add 0) (.bool b1) wv_4) /\ Calls P 137 ⟨[.slice ag ah ai, .slice ag ah ai]⟩ ak fun b2 b3 =>
 ∃ b4 b5 b6, b2 = .returned (.slice b4 b5 b6) /\
 Ext ak b3 /\ Calls P 170 ⟨[.slice b4 b5 b6, .slice a3 a4 a5]⟩ b3 fun b7 b8 =>
 ∃ b9, b7 = .returned (.int .i64 b9) /\
 Ext b3 b8 /\ Calls P 351 ⟨[.slice ac ae af]⟩ b8 fun ba bb =>
 ∃ bc, ba = .returned (.bool bc) /\
 Ext b8 bb /\ CallW P fl [.bool b1, .int .i64 b9, (.bool (!bc))] bb fun bd be =>
 ∃ bf, bd = .returned (.bool bf) /\
 (bf = true ->
 ∀ bg bh, New be (.cells ⟨[.int .i64 1]⟩ 3 (0, 0)) bg bh ->
 Calls P 137 ⟨[.slice ac ae af, (.slice (some ⟨bg, 0, none⟩) 1 1)]⟩ bh fun bi bj =>
 ∃ bk bl bm, bi = .returned (.slice bk bl bm) /\
 impl_roundQuotient_j0 r a6 bk bl bm bj R) /\
 (bf = false ->
 impl_roundQuotient_j0 r a6 ac ae af be R)) /\
 ((decide ((0 : Int) < ((ah : Nat) : Int))) = false ->
 (false = true ->
 ∀ bn bo, New ab.drew (.cells ⟨[.int .i64 1]⟩ 3 (0, 0)) bn bo ->
 Calls P 137 ⟨[.slice ac ae af, (.slice (some ⟨bn, 0, none⟩) 1 1)]⟩ bo fun bp bq =>
 ∃ br bs bt, bp = .returned (.slice br bs bt) /\
 impl_roundQuotient_j0 r a6 br bs bt bq R) /\
 (false = false ->
 impl_roundQuotient_j0 r a6 ac ae af ab.drew R))
theorem impl_roundQuotient_ret {a : Bool} {a0 : Option Addr} {a1 a2 : Nat} {a3 : Option Addr} {a4 a5 : Nat} {m : Int} (h : impl_roundQuotient a a0 a1 a2 a3 a4 a5 m w R) : Ret P 329 [.agg #[.bool a, .slice a0 a1 a2], .slice a3 a4 a5, .int .i64 m] w R := Ret.of_fsem Tryz.func329 rfl (Eq.mp (show _ = fsem P Tryz.f329 (fun k => []) _ R w from by kernel_rfl) h)
def impl_RatMake_j0 (r a0 a1 : Nat) (W : World) (R : Value -> World -> Prop) : Prop :=
 ∃ a2, (∀ wv_5, Ext W.drew wv_5 -> Loads P 4 ((⟨r, 0, none⟩ : Addr).add 0) (.bool a2) wv_5) /\ ∃ a3, (∀ wv_6, Ext W.drew wv_6 -> Loads P 4 ((⟨a0, 0, none⟩ : Addr).add 0) (.bool a3) wv_6) /\ ∃ a4 a5 a6, (∀ wv_7, Ext W.drew wv_7 -> Loads P 22 ((⟨r, 0, none⟩ : Addr).add 1) (.slice a4 a5 a6) wv_7) /\ Calls P 173 ⟨[(.bool (!(a2 == a3))), .slice a4 a5 a6]⟩ W.drew fun a7 a8 =>
 ∃ a9 aa ab ac, a7 = .returned (.agg #[.bool a9, .slice aa ab ac]) /\
 Ext W.drew a8 /\ ∃ ae af ag, (∀ wv_9, Ext W.drew wv_9 -> Loads P 22 ((⟨a0, 0, none⟩ : Addr).add 1) (.slice ae af ag) wv_9) /\ Calls P 185 ⟨[.agg #[.bool a9, .slice aa ab ac], .slice ae af ag]⟩ a8 fun ah ai =>
 ∃ aj ak al am an ao ap aq, ah = .returned (.tuple #[.agg #[.bool aj, .slice ak al am, .slice an ao ap], .bool aq]) /\
 ∃ wv_11, Stores P 53 ⟨a1, 0, none⟩ (.agg #[.bool aj, .slice ak al am, .slice an ao ap]) ai wv_11 /\
 ∃ r0_1 ar au av aw ax ay, Loads P 53 ⟨a1, 0, none⟩ (.agg #[.bool r0_1, .slice ar au av, .slice aw ax ay]) wv_11 /\ R (.tuple #[.agg #[.bool r0_1, .slice ar au av, .slice aw ax ay], .bool aq]) wv_11
def impl_RatMake (num0 : Bool) (a0 : Option Addr) (a1 a2 : Nat) (den0 : Bool) (a3 : Option Addr) (a4 a5 : Nat) (w : World) (R : Value -> World -> Prop) : Prop :=
 ∀ r wv, New w (.cells ⟨[.bool num0, .slice a0 a1 a2]⟩ 31 (0, 0)) r wv ->
 ∀ a6 a7, New wv (.cells ⟨[.bool den0, .slice a3 a4 a5]⟩ 31 (0, 0)) a6 a7 ->
 ∀ a8 a9, New a7 (.cells ⟨[.bool false, .slice none 0 0, .slice none 0 0]⟩ 53 (0, 0)) a8 a9 ->
 ∃ aa ab ac ae, Loads P 31 ⟨r, 0, none⟩ (.agg #[.bool aa, .slice ab ac ae]) a9 /\ ∃ af ag ah ai, Loads P 31 ⟨a6, 0, none⟩ (.agg #[.bool af, .slice ag ah ai]) a9 /\ Calls P 352 ⟨[.agg #[.bool aa, .slice ab ac ae], .agg #[.bool af, .slice ag ah ai]]⟩ a9 fun e aj =>
 ∃ t8, e = .returned (.bool t8) /\
 ((!t8) = true ->
 (true = true ->
 ∃ wv_4, Stores P 53 ⟨a8, 0, none⟩ (.agg #[.bool false, .slice none 0 0, .slice none 0 0]) aj wv_4 /\
 ∃ r0 ak al am an ao ap, Loads P 53 ⟨a8, 0, none⟩ (.agg #[.bool r0, .slice ak al am, .slice an ao ap]) wv_4 /\ R (.tuple #[.agg #[.bool r0, .slice ak al am, .slice an ao ap], .bool false]) wv_4) /\
 (true = false ->
 impl_RatMake_j0 r a6 a8 aj R)) /\
 ((!t8) = false ->
 ∃ aq ar au, Loads P 22 ((⟨a6, 0, none⟩ : Addr).add 1) (.slice aq ar au) aj /\ ((decide ((((ar : Nat) : Int) : Int) = 0)) = true ->
 ∃ wv_12, Stores P 53 ⟨a8, 0, none⟩ (.agg #[.bool false, .slice none 0 0, .slice none 0 0]) aj wv_12 /\
 ∃ r0_2 av aw ax ay az b0, Loads P 53 ⟨a8, 0, none⟩ (.agg #[.bool r0_2, .slice av aw ax, .slice ay az b0]) wv_12 /\ R (.tuple #[.agg #[.bool r0_2, .slice av aw ax, .slice ay az b0], .bool false]) wv_12) /\
 ((decide ((((ar : Nat) : Int) : Int) = 0)) = false ->
 impl_RatMake_j0 r a6 a8 aj R))
theorem impl_RatMake_ret {a : Bool} {a0 : Option Addr} {a1 a2 : Nat} {a3 : Bool} {a4 : Option Addr} {a5 a6 : Nat} (h : impl_RatMake a a0 a1 a2 a3 a4 a5 a6 w R) : Ret P 330 [.agg #[.bool a, .slice a0 a1 a2], .agg #[.bool a3, .slice a4 a5 a6]] w R := Ret.of_fsem Tryz.func330 rfl (Eq.mp (show _ = fsem P Tryz.f330 (fun k => []) _ R w from by kernel_rfl) h)
def impl_ratNeg (r0 : Bool) (a0 : Option Addr) (a1 a2 : Nat) (a3 : Option Addr) (a4 a5 : Nat) (w : World) (R : Value -> World -> Prop) : Prop :=
 ∀ r wv, New w (.cells ⟨[.bool r0, .slice a0 a1 a2, .slice a3 a4 a5]⟩ 53 (0, 0)) r wv ->
 ∀ a6 a7, New wv (.cells ⟨[.bool false, .slice none 0 0, .slice none 0 0]⟩ 53 (0, 0)) a6 a7 ->
 ∃ a8 a9 aa ab, (∀ wv_2, Ext a7.drew wv_2 -> Loads P 31 ((⟨r, 0, none⟩ : Addr).add 0) (.agg #[.bool a8, .slice a9 aa ab]) wv_2) /\ Calls P 226 ⟨[.agg #[.bool a8, .slice a9 aa ab]]⟩ a7.drew fun e ac =>
 ∃ ae af ag ah, e = .returned (.agg #[.bool ae, .slice af ag ah]) /\
 Ext a7.drew ac /\ ∃ ai aj ak, (∀ wv_4, Ext a7.drew wv_4 -> Loads P 22 ((⟨r, 0, none⟩ : Addr).add 2) (.slice ai aj ak) wv_4) /\ Calls P 162 ⟨[.slice ai aj ak]⟩ ac fun al am =>
 ∃ an ao ap, al = .returned (.slice an ao ap) /\
 ∃ wv_6, Stores P 53 ⟨a6, 0, none⟩ (.agg #[.bool ae, .slice af ag ah, .slice an ao ap]) am wv_6 /\
 ∃ r0_1 aq ar au av aw ax, Loads P 53 ⟨a6, 0, none⟩ (.agg #[.bool r0_1, .slice aq ar au, .slice av aw ax]) wv_6 /\ R (.agg #[.bool r0_1, .slice aq ar au, .slice av aw ax]) wv_6
theorem impl_ratNeg_ret {r0 : Bool} {a : Option Addr} {a0 a1 : Nat} {a2 : Option Addr} {a3 a4 : Nat} (h : impl_ratNeg r0 a a0 a1 a2 a3 a4 w R) : Ret P 331 [.agg #[.bool r0, .slice a a0 a1, .slice a2 a3 a4]] w R := Ret.of_fsem Tryz.func331 rfl (Eq.mp (show _ = fsem P Tryz.f331 (fun k => []) _ R w from by kernel_rfl) h)
def impl_roundModes (w : World) (R : Value -> World -> Prop) : Prop :=
 ∀ r wv, New w (.cells ⟨[.string ByteArray.empty, .nilFunc, .string ByteArray.empty, .nilFunc, .string ByteArray.empty, .nilFunc, .string ByteArray.empty, .nilFunc, .string ByteArray.empty, .nilFunc, .string ByteArray.empty, .nilFunc, .string ByteArray.empty, .nilFunc]⟩ 331 (0, 0)) r wv ->
 ∃ wv_1, Stores P 331 ⟨r, 0, none⟩ (.agg #[(.string (S [100, 111, 119, 110])), (.func (.func 357) #[] #[]), (.string (S [117, 112])), (.func (.func 358) #[] #[]), (.string (S [102, 108, 111, 111, 114])), (.func (.func 359) #[] #[]), (.string (S [99, 101, 105, 108])), (.func (.func 360) #[] #[]), (.string (S [104, 97, 108, 102, 100, 111, 119, 110])), (.func (.func 361) #[] #[]), (.string (S [104, 97, 108, 102, 117, 112])), (.func (.func 362) #[] #[]), (.string (S [104, 97, 108, 102, 101, 118, 101, 110])), (.func (.func 363) #[] #[])]) wv wv_1 /\
 ∃ (r0 : ByteArray) (r1 : Value) (r2 : ByteArray) (r3 : Value) (r4 : ByteArray) (r5 : Value) (r6 : ByteArray) (r7 : Value) (r8 : ByteArray) (r9 : Value) (r10 : ByteArray) (r11 : Value) (r12 : ByteArray) (r13 : Value), Loads P 331 ⟨r, 0, none⟩ (.agg #[.string r0, r1, .string r2, r3, .string r4, r5, .string r6, r7, .string r8, r9, .string r10, r11, .string r12, r13]) wv_1 /\ R (.agg #[.string r0, r1, .string r2, r3, .string r4, r5, .string r6, r7, .string r8, r9, .string r10, r11, .string r12, r13]) wv_1
theorem impl_roundModes_eq (w : World) (R : Value -> World -> Prop) : impl_roundModes w R = fsem P Tryz.f350 (fun k => []) [] R w := by kernel_rfl
set_option maxHeartbeats 4000000 in
theorem impl_roundModes_ret {w : World} {R : Value -> World -> Prop} (h : impl_roundModes w R) : Ret P 350 [] w R := by
  have h2 := impl_roundModes_eq w R
  have h3 : fsem P Tryz.f350 (fun k => []) [] R w := by rw [<- h2]; exact h
  exact Ret.of_fsem (fn := Tryz.f350) (car := (fun k => [])) (args := []) (w := w) (R := R) Tryz.func350 rfl h3
def impl_NatEven (a0 : Option Addr) (a1 a2 : Nat) (w : World) (R : Value -> World -> Prop) : Prop :=
 Calls P 180 ⟨[.slice a0 a1 a2]⟩ w fun e wv =>
 ∃ t4, e = .returned (.bool t4) /\
 (t4 = true ->
 ((decide ((((a1 : Nat) : Int) : Int) = 0)) = true ->
 R (.bool true) wv) /\
 ((decide ((((a1 : Nat) : Int) : Int) = 0)) = false ->
 (0 <= (0 : Int) /\ (0 : Int) < (a1 : Nat)) /\ ptrS a0 fun ad => ∃ a3, Loads P 3 (ad.add (0 * 1)) (.int .i64 a3) wv /\ (2 : Int) ≠ 0 /\ ∃ a4 : Int, a4 = Int.tmod a3 2 /\ R (.bool (decide ((a4 : Int) = 0))) wv)) /\
 (t4 = false ->
 R (.bool false) wv)
theorem impl_NatEven_ret {a : Option Addr} {a0 a1 : Nat} (h : impl_NatEven a a0 a1 w R) : Ret P 351 [.slice a a0 a1] w R := Ret.of_fsem Tryz.func351 rfl (Eq.mp (show _ = fsem P Tryz.f351 (fun k => []) _ R w from by kernel_rfl) h)
def impl_intsOk (x0 : Bool) (a0 : Option Addr) (a1 a2 : Nat) (y0 : Bool) (a3 : Option Addr) (a4 a5 : Nat) (w : World) (R : Value -> World -> Prop) : Prop :=
 ∀ r wv, New w (.cells ⟨[.bool x0, .slice a0 a1 a2]⟩ 31 (0, 0)) r wv ->
 ∀ a6 a7, New wv (.cells ⟨[.bool y0, .slice a3 a4 a5]⟩ 31 (0, 0)) a6 a7 ->
 ∃ a8 a9 aa ab, Loads P 31 ⟨r, 0, none⟩ (.agg #[.bool a8, .slice a9 aa ab]) a7 /\ Calls P 158 ⟨[.agg #[.bool a8, .slice a9 aa ab]]⟩ a7 fun e ac =>
 ∃ t6, e = .returned (.bool t6) /\
 (t6 = true ->
 ∃ ae af ag ah, Loads P 31 ⟨a6, 0, none⟩ (.agg #[.bool ae, .slice af ag ah]) ac /\ Calls P 158 ⟨[.agg #[.bool ae, .slice af ag ah]]⟩ ac fun ai aj =>
 ∃ t9, ai = .returned (.bool t9) /\
 R (.bool t9) aj) /\
 (t6 = false ->
 R (.bool false) ac)
theorem impl_intsOk_ret {x0 : Bool} {a : Option Addr} {a0 a1 : Nat} {y0 : Bool} {a2 : Option Addr} {a3 a4 : Nat} (h : impl_intsOk x0 a a0 a1 y0 a2 a3 a4 w R) : Ret P 352 [.agg #[.bool x0, .slice a a0 a1], .agg #[.bool y0, .slice a2 a3 a4]] w R := Ret.of_fsem Tryz.func352 rfl (Eq.mp (show _ = fsem P Tryz.f352 (fun k => []) _ R w from by kernel_rfl) h)
def impl_roundModes_1 (a0 : Bool) (a1 : Int) (a2 : Bool) (w : World) (R : Value -> World -> Prop) : Prop :=
 R (.bool false) w
theorem impl_roundModes_1_ret {a0 : Bool} {a1 : Int} {a2 : Bool} (h : impl_roundModes_1 a0 a1 a2 w R) : Ret P 357 [.bool a0, .int .i64 a1, .bool a2] w R := Ret.of_fsem Tryz.func357 rfl (Eq.mp (show _ = fsem P Tryz.f357 (fun k => []) _ R w from by kernel_rfl) h)
def impl_roundModes_2 (a0 : Bool) (a1 : Int) (a2 : Bool) (w : World) (R : Value -> World -> Prop) : Prop :=
 R (.bool true) w
theorem impl_roundModes_2_ret {a0 : Bool} {a1 : Int} {a2 : Bool} (h : impl_roundModes_2 a0 a1 a2 w R) : Ret P 358 [.bool a0, .int .i64 a1, .bool a2] w R := Ret.of_fsem Tryz.func358 rfl (Eq.mp (show _ = fsem P Tryz.f358 (fun k => []) _ R w from by kernel_rfl) h)
def impl_roundModes_3 (neg : Bool) (u : Int) (u_1 : Bool) (w : World) (R : Value -> World -> Prop) : Prop :=
 R (.bool neg) w
theorem impl_roundModes_3_ret {a : Bool} {u : Int} {a0 : Bool} (h : impl_roundModes_3 a u a0 w R) : Ret P 359 [.bool a, .int .i64 u, .bool a0] w R := Ret.of_fsem Tryz.func359 rfl (Eq.mp (show _ = fsem P Tryz.f359 (fun k => []) _ R w from by kernel_rfl) h)
def impl_roundModes_4 (neg : Bool) (u : Int) (u_1 : Bool) (w : World) (R : Value -> World -> Prop) : Prop :=
 R (.bool (!neg)) w
theorem impl_roundModes_4_ret {a : Bool} {u : Int} {a0 : Bool} (h : impl_roundModes_4 a u a0 w R) : Ret P 360 [.bool a, .int .i64 u, .bool a0] w R := Ret.of_fsem Tryz.func360 rfl (Eq.mp (show _ = fsem P Tryz.f360 (fun k => []) _ R w from by kernel_rfl) h)
def impl_roundModes_5 (u : Bool) (half : Int) (u_1 : Bool) (w : World) (R : Value -> World -> Prop) : Prop :=
 R (.bool (decide ((0 : Int) < half))) w
theorem impl_roundModes_5_ret {u : Bool} {a : Int} {a0 : Bool} (h : impl_roundModes_5 u a a0 w R) : Ret P 361 [.bool u, .int .i64 a, .bool a0] w R := Ret.of_fsem Tryz.func361 rfl (Eq.mp (show _ = fsem P Tryz.f361 (fun k => []) _ R w from by kernel_rfl) h)
def impl_roundModes_6 (u : Bool) (half : Int) (u_1 : Bool) (w : World) (R : Value -> World -> Prop) : Prop :=
 R (.bool (decide ((0 : Int) <= half))) w
theorem impl_roundModes_6_ret {u : Bool} {a : Int} {a0 : Bool} (h : impl_roundModes_6 u a a0 w R) : Ret P 362 [.bool u, .int .i64 a, .bool a0] w R := Ret.of_fsem Tryz.func362 rfl (Eq.mp (show _ = fsem P Tryz.f362 (fun k => []) _ R w from by kernel_rfl) h)
def impl_roundModes_7 (u : Bool) (half : Int) (odd : Bool) (w : World) (R : Value -> World -> Prop) : Prop :=
 ((decide ((0 : Int) < half)) = true ->
 R (.bool true) w) /\
 ((decide ((0 : Int) < half)) = false ->
 ((decide ((half : Int) = 0)) = true ->
 R (.bool odd) w) /\
 ((decide ((half : Int) = 0)) = false ->
 R (.bool false) w))
theorem impl_roundModes_7_ret {u : Bool} {a : Int} {a0 : Bool} (h : impl_roundModes_7 u a a0 w R) : Ret P 363 [.bool u, .int .i64 a, .bool a0] w R := Ret.of_fsem Tryz.func363 rfl (Eq.mp (show _ = fsem P Tryz.f363 (fun k => []) _ R w from by kernel_rfl) h)
end Go.Proofs.YtfehpaekbbmkcaaGreatDoor
namespace Go.Proofs.YtfehpaekbbmkcaaGreatDoor
variable {w : World} {R : Value -> World -> Prop}
open Go Go.Proofs.YtfehpaekbbmkcaaGreatDoor.Sx
set_option maxRecDepth 100000
def laws_szMoney (a0 : ByteArray) (a1 : Bool) (a2 : Option Addr) (a3 a4 : Nat) (left : Int) (w : World) (R : Value -> World -> Prop) : Prop :=
 ∀ r wv, New w (.cells ⟨[.string a0, .bool a1, .slice a2 a3 a4]⟩ 26 (0, 0)) r wv ->
 ∃ t7, Loads P 9 ((⟨r, 0, none⟩ : Addr).add 0) (.string t7) wv /\ ∃ t9 : Int, t9 = IntKind.wrap .i64 (left - ((t7.size : Nat) : Int)) /\ ((decide ((t9 : Int) < 0)) = true ->
 R (.int .i64 (-1)) wv) /\
 ((decide ((t9 : Int) < 0)) = false ->
 ∃ a5 a6 a7 a8, Loads P 24 ((⟨r, 0, none⟩ : Addr).add 1) (.agg #[.bool a5, .slice a6 a7 a8]) wv /\ Calls P 65 ⟨[.agg #[.bool a5, .slice a6 a7 a8], .int .i64 t9]⟩ wv fun e a9 =>
 ∃ aa, e = .returned (.int .i64 aa) /\
 ((decide ((aa : Int) < 0)) = true ->
 R (.int .i64 (-1)) a9) /\
 ((decide ((aa : Int) < 0)) = false ->
 R (.int .i64 aa) a9))
theorem laws_szMoney_ret {a0 : ByteArray} {a1 : Bool} {a : Option Addr} {a2 a3 : Nat} {a4 : Int} (h : laws_szMoney a0 a1 a a2 a3 a4 w R) : Ret P 11 [.agg #[.string a0, .bool a1, .slice a a2 a3], .int .i64 a4] w R := Ret.of_fsem Tryz.func11 rfl (Eq.mp (show _ = fsem P Tryz.f11 (fun k => []) _ R w from by kernel_rfl) h)
def laws_toMoney (a0 : ByteArray) (a1 : Bool) (a2 : Option Addr) (a3 a4 : Nat) (w : World) (R : Value -> World -> Prop) : Prop :=
 ∀ r wv, New w (.cells ⟨[.string a0, .bool a1, .slice a2 a3 a4]⟩ 26 (0, 0)) r wv ->
 ∀ a5 a6, New wv (.cells ⟨[.string ByteArray.empty, .bool false, .slice none 0 0]⟩ 33 (0, 0)) a5 a6 ->
 ∀ a7 a8, New a6 (.cells ⟨[.string ByteArray.empty, .bool false, .slice none 0 0]⟩ 33 (0, 0)) a7 a8 ->
 ∃ t5, Loads P 9 ((⟨r, 0, none⟩ : Addr).add 0) (.string t5) a8 /\ ∃ wv_3, Stores P 9 ((⟨a7, 0, none⟩ : Addr).add 0) (.string t5) a8 wv_3 /\
 ∃ a9 aa ab ac, Loads P 24 ((⟨r, 0, none⟩ : Addr).add 1) (.agg #[.bool a9, .slice aa ab ac]) wv_3 /\ Calls P 68 ⟨[.agg #[.bool a9, .slice aa ab ac]]⟩ wv_3 fun e ae =>
 ∃ af ag ah ai, e = .returned (.agg #[.bool af, .slice ag ah ai]) /\
 ∃ wv_5, Stores P 31 ((⟨a7, 0, none⟩ : Addr).add 1) (.agg #[.bool af, .slice ag ah ai]) ae wv_5 /\
 ∃ aj ak al am an, Loads P 33 ⟨a7, 0, none⟩ (.agg #[.string aj, .bool ak, .slice al am an]) wv_5 /\ ∃ wv_6, Stores P 33 ⟨a5, 0, none⟩ (.agg #[.string aj, .bool ak, .slice al am an]) wv_5 wv_6 /\
 ∃ r0 r1 ao ap aq, Loads P 33 ⟨a5, 0, none⟩ (.agg #[.string r0, .bool r1, .slice ao ap aq]) wv_6 /\ R (.agg #[.string r0, .bool r1, .slice ao ap aq]) wv_6
theorem laws_toMoney_ret {a0 : ByteArray} {a1 : Bool} {a : Option Addr} {a2 a3 : Nat} (h : laws_toMoney a0 a1 a a2 a3 w R) : Ret P 13 [.agg #[.string a0, .bool a1, .slice a a2 a3]] w R := Ret.of_fsem Tryz.func13 rfl (Eq.mp (show _ = fsem P Tryz.f13 (fun k => []) _ R w from by kernel_rfl) h)
def laws_toIntS (a0 : Option Addr) (a1 a2 : Nat) (w : World) (R : Value -> World -> Prop) : Prop :=
 (0 <= (((a1 : Nat) : Int) : Int) /\ (((a1 : Nat) : Int) : Int) <= ((a1 : Nat) : Int) /\ ((8 : Nat) : Int) * ((a1 : Nat) : Int) <= 281474976710656) /\
 ∀ r wv, New w (.cells ⟨zeroRow (.int .i64 0) (a1 * 1)⟩ 3 (0, 0)) r wv ->
 ∃ (a3 : Int -> World -> Prop) (mu : Int -> World -> Nat), a3 0 wv /\
 ∀ (a4 : Fr) (a5 : World) (i : Int), a3 i a5 ->
 ((decide ((i : Int) < ((a1 : Nat) : Int))) = true ->
 (0 <= (i : Int) /\ (i : Int) < (a1 : Nat)) /\ ptrS a0 fun ad => ∃ a6, Loads P 3 (ad.add (i.toNat * 1)) (.int .i64 a6) a5 /\ (0 <= (i : Int) /\ (i : Int) < (a1 : Nat)) /\ ∃ wv_2, Stores P 3 ((⟨r, 0, none⟩ : Addr).add (i.toNat * 1)) (.int .i64 a6) a5 wv_2 /\
 ∃ a7 : Int, a7 = IntKind.wrap .i64 (i + 1) /\ a3 a7 wv_2 /\ mu a7 wv_2 < mu i a5) /\
 ((decide ((i : Int) < ((a1 : Nat) : Int))) = false ->
 R (.slice (some ⟨r, 0, none⟩) a1 a1) a5)
theorem laws_toIntS_ret {a : Option Addr} {a0 a1 : Nat} (h : laws_toIntS a a0 a1 w R) : Ret P 14 [.slice a a0 a1] w R := Ret.of_fsem Tryz.func14 rfl (Eq.mp (show _ = fsem P Tryz.f14 (fun k => cond (Nat.beq k 4) [(4, .one (.int .i64))] ([])) _ R w from by kernel_rfl) h)
def laws_eqMoney (a0 : ByteArray) (a1 : Bool) (a2 : Option Addr) (a3 a4 : Nat) (b0 : ByteArray) (b1 : Bool) (a5 : Option Addr) (a6 a7 : Nat) (w : World) (R : Value -> World -> Prop) : Prop :=
 ∀ r wv, New w (.cells ⟨[.string a0, .bool a1, .slice a2 a3 a4]⟩ 33 (0, 0)) r wv ->
 ∀ a8 a9, New wv (.cells ⟨[.string b0, .bool b1, .slice a5 a6 a7]⟩ 33 (0, 0)) a8 a9 ->
 ∃ t6, Loads P 9 ((⟨r, 0, none⟩ : Addr).add 0) (.string t6) a9 /\ ∃ t8, Loads P 9 ((⟨a8, 0, none⟩ : Addr).add 0) (.string t8) a9 /\ ((decide (t6 ≠ t8)) = true ->
 R (.bool false) a9) /\
 ((decide (t6 ≠ t8)) = false ->
 ∃ aa ab ac ae, Loads P 31 ((⟨r, 0, none⟩ : Addr).add 1) (.agg #[.bool aa, .slice ab ac ae]) a9 /\ ∃ af ag ah ai, Loads P 31 ((⟨a8, 0, none⟩ : Addr).add 1) (.agg #[.bool af, .slice ag ah ai]) a9 /\ Calls P 71 ⟨[.agg #[.bool aa, .slice ab ac ae], .agg #[.bool af, .slice ag ah ai]]⟩ a9 fun e aj =>
 ∃ ak, e = .returned (.bool ak) /\
 ((!ak) = true ->
 R (.bool false) aj) /\
 ((!ak) = false ->
 R (.bool true) aj))
theorem laws_eqMoney_ret {a0 : ByteArray} {a1 : Bool} {a : Option Addr} {a2 a3 : Nat} {b0 : ByteArray} {b1 : Bool} {a4 : Option Addr} {a5 a6 : Nat} (h : laws_eqMoney a0 a1 a a2 a3 b0 b1 a4 a5 a6 w R) : Ret P 17 [.agg #[.string a0, .bool a1, .slice a a2 a3], .agg #[.string b0, .bool b1, .slice a4 a5 a6]] w R := Ret.of_fsem Tryz.func17 rfl (Eq.mp (show _ = fsem P Tryz.f17 (fun k => []) _ R w from by kernel_rfl) h)
def laws_eqIntS (a0 : Option Addr) (a1 a2 : Nat) (a3 : Option Addr) (a4 a5 : Nat) (w : World) (R : Value -> World -> Prop) : Prop :=
 ((decide ((((a1 : Nat) : Int) : Int) ≠ ((a4 : Nat) : Int))) = true ->
 R (.bool false) w) /\
 ((decide ((((a1 : Nat) : Int) : Int) ≠ ((a4 : Nat) : Int))) = false ->
 ∃ (a6 : Int -> World -> Prop) (mu : Int -> World -> Nat), a6 0 w /\
 ∀ (a7 : Fr) (wv : World) (i : Int), a6 i wv ->
 ((decide ((i : Int) < ((a1 : Nat) : Int))) = true ->
 (0 <= (i : Int) /\ (i : Int) < (a1 : Nat)) /\ ptrS a0 fun ad => ∃ a8, (∀ wv_1, Ext wv.drew wv_1 -> Loads P 3 (ad.add (i.toNat * 1)) (.int .i64 a8) wv_1) /\ (0 <= (i : Int) /\ (i : Int) < (a4 : Nat)) /\ ptrS a3 fun a9 => ∃ aa, (∀ wv_2, Ext wv.drew wv_2 -> Loads P 3 (a9.add (i.toNat * 1)) (.int .i64 aa) wv_2) /\ ((decide ((a8 : Int) ≠ aa)) = true ->
 R (.bool false) wv.drew) /\
 ((decide ((a8 : Int) ≠ aa)) = false ->
 ∃ ab : Int, ab = IntKind.wrap .i64 (i + 1) /\ a6 ab wv.drew /\ mu ab wv.drew < mu i wv)) /\
 ((decide ((i : Int) < ((a1 : Nat) : Int))) = false ->
 R (.bool true) wv))
theorem laws_eqIntS_ret {a : Option Addr} {a0 a1 : Nat} {a2 : Option Addr} {a3 a4 : Nat} (h : laws_eqIntS a a0 a1 a2 a3 a4 w R) : Ret P 18 [.slice a a0 a1, .slice a2 a3 a4] w R := Ret.of_fsem Tryz.func18 rfl (Eq.mp (show _ = fsem P Tryz.f18 (fun k => cond (Nat.beq k 5) [(5, .one (.int .i64))] ([])) _ R w from by kernel_rfl) h)
def laws_markMoney (a0 : ByteArray) (a1 : Bool) (a2 : Option Addr) (a3 a4 : Nat) (k : Int) (w : World) (R : Value -> World -> Prop) : Prop :=
 ∀ r wv, New w (.cells ⟨[.string a0, .bool a1, .slice a2 a3 a4]⟩ 33 (0, 0)) r wv ->
 ∃ a5 a6 a7 a8, Loads P 31 ((⟨r, 0, none⟩ : Addr).add 1) (.agg #[.bool a5, .slice a6 a7 a8]) wv /\ Calls P 72 ⟨[.agg #[.bool a5, .slice a6 a7 a8], .int .i64 k]⟩ wv fun e a9 =>
 ∃ t8, e = .returned (.int .i64 t8) /\
 R (.int .i64 t8) a9
theorem laws_markMoney_ret {a0 : ByteArray} {a1 : Bool} {a : Option Addr} {a2 a3 : Nat} {k : Int} (h : laws_markMoney a0 a1 a a2 a3 k w R) : Ret P 19 [.agg #[.string a0, .bool a1, .slice a a2 a3], .int .i64 k] w R := Ret.of_fsem Tryz.func19 rfl (Eq.mp (show _ = fsem P Tryz.f19 (fun k => []) _ R w from by kernel_rfl) h)
def laws_markIntS (a0 : Option Addr) (a1 a2 : Nat) (k : Int) (w : World) (R : Value -> World -> Prop) : Prop :=
 ∃ (a3 : Int -> Int -> World -> Prop) (mu : Int -> Int -> World -> Nat), a3 k 0 w /\
 ∀ (a4 : Fr) (wv : World) (k_1 i : Int), a3 k_1 i wv ->
 ((decide ((i : Int) < ((a1 : Nat) : Int))) = true ->
 (0 <= (i : Int) /\ (i : Int) < (a1 : Nat)) /\ ptrS a0 fun ad => ∃ wv_1, Stores P 3 (ad.add (i.toNat * 1)) (.int .i64 k_1) wv wv_1 /\
 ∃ a5 : Int, a5 = IntKind.wrap .i64 (k_1 + 1) /\ ∃ a6 : Int, a6 = IntKind.wrap .i64 (i + 1) /\ a3 a5 a6 wv_1 /\ mu a5 a6 wv_1 < mu k_1 i wv) /\
 ((decide ((i : Int) < ((a1 : Nat) : Int))) = false ->
 R (.int .i64 k_1) wv)
theorem laws_markIntS_ret {a : Option Addr} {a0 a1 : Nat} {k : Int} (h : laws_markIntS a a0 a1 k w R) : Ret P 20 [.slice a a0 a1, .int .i64 k] w R := Ret.of_fsem Tryz.func20 rfl (Eq.mp (show _ = fsem P Tryz.f20 (fun k => cond (Nat.beq k 3) [(1, .one (.int .i64)), (5, .one (.int .i64))] ([])) _ R w from by kernel_rfl) h)
def laws_eqDec (a0 : Bool) (a1 : Option Addr) (a3 a4 : Nat) (a2 : Int) (b0 : Bool) (a5 : Option Addr) (a6 a7 : Nat) (b2 : Int) (w : World) (R : Value -> World -> Prop) : Prop :=
 ∀ r wv, New w (.cells ⟨[.bool a0, .slice a1 a3 a4, .int .i64 a2]⟩ 63 (0, 0)) r wv ->
 ∀ a8 a9, New wv (.cells ⟨[.bool b0, .slice a5 a6 a7, .int .i64 b2]⟩ 63 (0, 0)) a8 a9 ->
 ∃ aa ab ac ae, Loads P 31 ((⟨r, 0, none⟩ : Addr).add 0) (.agg #[.bool aa, .slice ab ac ae]) a9 /\ ∃ af ag ah ai, Loads P 31 ((⟨a8, 0, none⟩ : Addr).add 0) (.agg #[.bool af, .slice ag ah ai]) a9 /\ Calls P 71 ⟨[.agg #[.bool aa, .slice ab ac ae], .agg #[.bool af, .slice ag ah ai]]⟩ a9 fun e aj =>
 ∃ t9, e = .returned (.bool t9) /\
 ((!t9) = true ->
 R (.bool false) aj) /\
 ((!t9) = false ->
 ∃ ak, Loads P 3 ((⟨r, 0, none⟩ : Addr).add 2) (.int .i64 ak) aj /\ ∃ al, Loads P 3 ((⟨a8, 0, none⟩ : Addr).add 2) (.int .i64 al) aj /\ ((decide ((ak : Int) ≠ al)) = true ->
 R (.bool false) aj) /\
 ((decide ((ak : Int) ≠ al)) = false ->
 R (.bool true) aj))
theorem laws_eqDec_ret {a0 : Bool} {a : Option Addr} {a1 a3 : Nat} {a2 : Int} {b0 : Bool} {a4 : Option Addr} {a5 a6 : Nat} {b2 : Int} (h : laws_eqDec a0 a a1 a3 a2 b0 a4 a5 a6 b2 w R) : Ret P 38 [.agg #[.bool a0, .slice a a1 a3, .int .i64 a2], .agg #[.bool b0, .slice a4 a5 a6, .int .i64 b2]] w R := Ret.of_fsem Tryz.func38 rfl (Eq.mp (show _ = fsem P Tryz.f38 (fun k => []) _ R w from by kernel_rfl) h)
def laws_markDec (a0 : Bool) (a1 : Option Addr) (a3 a4 : Nat) (a2 k : Int) (w : World) (R : Value -> World -> Prop) : Prop :=
 ∀ r wv, New w (.cells ⟨[.bool a0, .slice a1 a3 a4, .int .i64 a2]⟩ 63 (0, 0)) r wv ->
 ∃ a5 a6 a7 a8, Loads P 31 ((⟨r, 0, none⟩ : Addr).add 0) (.agg #[.bool a5, .slice a6 a7 a8]) wv /\ Calls P 72 ⟨[.agg #[.bool a5, .slice a6 a7 a8], .int .i64 k]⟩ wv fun e a9 =>
 ∃ t8, e = .returned (.int .i64 t8) /\
 R (.int .i64 t8) a9
theorem laws_markDec_ret {a0 : Bool} {a : Option Addr} {a1 a3 : Nat} {a2 k : Int} (h : laws_markDec a0 a a1 a3 a2 k w R) : Ret P 39 [.agg #[.bool a0, .slice a a1 a3, .int .i64 a2], .int .i64 k] w R := Ret.of_fsem Tryz.func39 rfl (Eq.mp (show _ = fsem P Tryz.f39 (fun k => []) _ R w from by kernel_rfl) h)
def laws_szDec (a0 : Bool) (a1 : Option Addr) (a3 a4 : Nat) (a2 left : Int) (w : World) (R : Value -> World -> Prop) : Prop :=
 ∀ r wv, New w (.cells ⟨[.bool a0, .slice a1 a3 a4, .int .i64 a2]⟩ 87 (0, 0)) r wv ->
 ∃ a5 a6 a7 a8, Loads P 24 ((⟨r, 0, none⟩ : Addr).add 0) (.agg #[.bool a5, .slice a6 a7 a8]) wv /\ Calls P 65 ⟨[.agg #[.bool a5, .slice a6 a7 a8], .int .i64 left]⟩ wv fun e a9 =>
 ∃ t8, e = .returned (.int .i64 t8) /\
 ((decide ((t8 : Int) < 0)) = true ->
 R (.int .i64 (-1)) a9) /\
 ((decide ((t8 : Int) < 0)) = false ->
 R (.int .i64 t8) a9)
theorem laws_szDec_ret {a0 : Bool} {a : Option Addr} {a1 a3 : Nat} {a2 a4 : Int} (h : laws_szDec a0 a a1 a3 a2 a4 w R) : Ret P 55 [.agg #[.bool a0, .slice a a1 a3, .int .i64 a2], .int .i64 a4] w R := Ret.of_fsem Tryz.func55 rfl (Eq.mp (show _ = fsem P Tryz.f55 (fun k => []) _ R w from by kernel_rfl) h)
def laws_toDec (a0 : Bool) (a1 : Option Addr) (a3 a4 : Nat) (a2 : Int) (w : World) (R : Value -> World -> Prop) : Prop :=
 ∀ r wv, New w (.cells ⟨[.bool a0, .slice a1 a3 a4, .int .i64 a2]⟩ 87 (0, 0)) r wv ->
 ∀ a5 a6, New wv (.cells ⟨[.bool false, .slice none 0 0, .int .i64 0]⟩ 63 (0, 0)) a5 a6 ->
 ∀ a7 a8, New a6 (.cells ⟨[.bool false, .slice none 0 0, .int .i64 0]⟩ 63 (0, 0)) a7 a8 ->
 ∃ a9 aa ab ac, Loads P 24 ((⟨r, 0, none⟩ : Addr).add 0) (.agg #[.bool a9, .slice aa ab ac]) a8 /\ Calls P 68 ⟨[.agg #[.bool a9, .slice aa ab ac]]⟩ a8 fun e ae =>
 ∃ af ag ah ai, e = .returned (.agg #[.bool af, .slice ag ah ai]) /\
 ∃ wv_4, Stores P 31 ((⟨a7, 0, none⟩ : Addr).add 0) (.agg #[.bool af, .slice ag ah ai]) ae wv_4 /\
 ∃ t9, Loads P 3 ((⟨r, 0, none⟩ : Addr).add 2) (.int .i64 t9) wv_4 /\ ∃ wv_5, Stores P 3 ((⟨a7, 0, none⟩ : Addr).add 2) (.int .i64 t9) wv_4 wv_5 /\
 ∃ aj ak al am an, Loads P 63 ⟨a7, 0, none⟩ (.agg #[.bool aj, .slice ak al am, .int .i64 an]) wv_5 /\ ∃ wv_6, Stores P 63 ⟨a5, 0, none⟩ (.agg #[.bool aj, .slice ak al am, .int .i64 an]) wv_5 wv_6 /\
 ∃ r0 ao ap aq r2, Loads P 63 ⟨a5, 0, none⟩ (.agg #[.bool r0, .slice ao ap aq, .int .i64 r2]) wv_6 /\ R (.agg #[.bool r0, .slice ao ap aq, .int .i64 r2]) wv_6
theorem laws_toDec_ret {a0 : Bool} {a : Option Addr} {a1 a3 : Nat} {a2 : Int} (h : laws_toDec a0 a a1 a3 a2 w R) : Ret P 57 [.agg #[.bool a0, .slice a a1 a3, .int .i64 a2]] w R := Ret.of_fsem Tryz.func57 rfl (Eq.mp (show _ = fsem P Tryz.f57 (fun k => []) _ R w from by kernel_rfl) h)
def laws_heldMoney (a0 : ByteArray) (a1 : Bool) (a2 : Option Addr) (a3 a4 : Nat) (k : Int) (w : World) (R : Value -> World -> Prop) : Prop :=
 ∀ r wv, New w (.cells ⟨[.string a0, .bool a1, .slice a2 a3 a4]⟩ 33 (0, 0)) r wv ->
 ∃ a5 a6 a7 a8, Loads P 31 ((⟨r, 0, none⟩ : Addr).add 1) (.agg #[.bool a5, .slice a6 a7 a8]) wv /\ Calls P 100 ⟨[.agg #[.bool a5, .slice a6 a7 a8], .int .i64 k]⟩ wv fun e a9 =>
 ∃ t8, e = .returned (.int .i64 t8) /\
 ((decide ((t8 : Int) < 0)) = true ->
 R (.int .i64 (-1)) a9) /\
 ((decide ((t8 : Int) < 0)) = false ->
 R (.int .i64 t8) a9)
theorem laws_heldMoney_ret {a0 : ByteArray} {a1 : Bool} {a : Option Addr} {a2 a3 : Nat} {k : Int} (h : laws_heldMoney a0 a1 a a2 a3 k w R) : Ret P 59 [.agg #[.string a0, .bool a1, .slice a a2 a3], .int .i64 k] w R := Ret.of_fsem Tryz.func59 rfl (Eq.mp (show _ = fsem P Tryz.f59 (fun k => []) _ R w from by kernel_rfl) h)
def laws_szSigned (a0 : Bool) (a1 : Option Addr) (a2 a3 : Nat) (left : Int) (w : World) (R : Value -> World -> Prop) : Prop :=
 ∀ r wv, New w (.cells ⟨[.bool a0, .slice a1 a2 a3]⟩ 24 (0, 0)) r wv ->
 ∃ a4 a5 a6, Loads P 22 ((⟨r, 0, none⟩ : Addr).add 1) (.slice a4 a5 a6) wv /\ Calls P 76 ⟨[.slice a4 a5 a6, .int .i64 left]⟩ wv fun e a7 =>
 ∃ t8, e = .returned (.int .i64 t8) /\
 ((decide ((t8 : Int) < 0)) = true ->
 R (.int .i64 (-1)) a7) /\
 ((decide ((t8 : Int) < 0)) = false ->
 R (.int .i64 t8) a7)
theorem laws_szSigned_ret {a0 : Bool} {a : Option Addr} {a1 a2 : Nat} {a3 : Int} (h : laws_szSigned a0 a a1 a2 a3 w R) : Ret P 65 [.agg #[.bool a0, .slice a a1 a2], .int .i64 a3] w R := Ret.of_fsem Tryz.func65 rfl (Eq.mp (show _ = fsem P Tryz.f65 (fun k => []) _ R w from by kernel_rfl) h)
def laws_toSigned (a0 : Bool) (a1 : Option Addr) (a2 a3 : Nat) (w : World) (R : Value -> World -> Prop) : Prop :=
 ∀ r wv, New w (.cells ⟨[.bool a0, .slice a1 a2 a3]⟩ 24 (0, 0)) r wv ->
 ∀ a4 a5, New wv (.cells ⟨[.bool false, .slice none 0 0]⟩ 31 (0, 0)) a4 a5 ->
 ∀ a6 a7, New a5 (.cells ⟨[.bool false, .slice none 0 0]⟩ 31 (0, 0)) a6 a7 ->
 ∃ t5, Loads P 4 ((⟨r, 0, none⟩ : Addr).add 0) (.bool t5) a7 /\ ∃ wv_3, Stores P 4 ((⟨a6, 0, none⟩ : Addr).add 0) (.bool t5) a7 wv_3 /\
 ∃ a8 a9 aa, Loads P 22 ((⟨r, 0, none⟩ : Addr).add 1) (.slice a8 a9 aa) wv_3 /\ Calls P 14 ⟨[.slice a8 a9 aa]⟩ wv_3 fun e ab =>
 ∃ ac ae af, e = .returned (.slice ac ae af) /\
 ∃ wv_5, Stores P 22 ((⟨a6, 0, none⟩ : Addr).add 1) (.slice ac ae af) ab wv_5 /\
 ∃ ag ah ai aj, Loads P 31 ⟨a6, 0, none⟩ (.agg #[.bool ag, .slice ah ai aj]) wv_5 /\ ∃ wv_6, Stores P 31 ⟨a4, 0, none⟩ (.agg #[.bool ag, .slice ah ai aj]) wv_5 wv_6 /\
 ∃ r0 ak al am, Loads P 31 ⟨a4, 0, none⟩ (.agg #[.bool r0, .slice ak al am]) wv_6 /\ R (.agg #[.bool r0, .slice ak al am]) wv_6
theorem laws_toSigned_ret {a0 : Bool} {a : Option Addr} {a1 a2 : Nat} (h : laws_toSigned a0 a a1 a2 w R) : Ret P 68 [.agg #[.bool a0, .slice a a1 a2]] w R := Ret.of_fsem Tryz.func68 rfl (Eq.mp (show _ = fsem P Tryz.f68 (fun k => []) _ R w from by kernel_rfl) h)
def laws_eqSigned (a0 : Bool) (a1 : Option Addr) (a2 a3 : Nat) (b0 : Bool) (a4 : Option Addr) (a5 a6 : Nat) (w : World) (R : Value -> World -> Prop) : Prop :=
 ∀ r wv, New w (.cells ⟨[.bool a0, .slice a1 a2 a3]⟩ 31 (0, 0)) r wv ->
 ∀ a7 a8, New wv (.cells ⟨[.bool b0, .slice a4 a5 a6]⟩ 31 (0, 0)) a7 a8 ->
 ∃ t6, Loads P 4 ((⟨r, 0, none⟩ : Addr).add 0) (.bool t6) a8 /\ ∃ t8, Loads P 4 ((⟨a7, 0, none⟩ : Addr).add 0) (.bool t8) a8 /\ ((!(t6 == t8)) = true ->
 R (.bool false) a8) /\
 ((!(t6 == t8)) = false ->
 ∃ a9 aa ab, Loads P 22 ((⟨r, 0, none⟩ : Addr).add 1) (.slice a9 aa ab) a8 /\ ∃ ac ae af, Loads P 22 ((⟨a7, 0, none⟩ : Addr).add 1) (.slice ac ae af) a8 /\ Calls P 18 ⟨[.slice a9 aa ab, .slice ac ae af]⟩ a8 fun e ag =>
 ∃ ah, e = .returned (.bool ah) /\
 ((!ah) = true ->
 R (.bool false) ag) /\
 ((!ah) = false ->
 R (.bool true) ag))
theorem laws_eqSigned_ret {a0 : Bool} {a : Option Addr} {a1 a2 : Nat} {b0 : Bool} {a3 : Option Addr} {a4 a5 : Nat} (h : laws_eqSigned a0 a a1 a2 b0 a3 a4 a5 w R) : Ret P 71 [.agg #[.bool a0, .slice a a1 a2], .agg #[.bool b0, .slice a3 a4 a5]] w R := Ret.of_fsem Tryz.func71 rfl (Eq.mp (show _ = fsem P Tryz.f71 (fun k => []) _ R w from by kernel_rfl) h)
def laws_markSigned (a0 : Bool) (a1 : Option Addr) (a2 a3 : Nat) (k : Int) (w : World) (R : Value -> World -> Prop) : Prop :=
 ∀ r wv, New w (.cells ⟨[.bool a0, .slice a1 a2 a3]⟩ 31 (0, 0)) r wv ->
 ∃ a4 a5 a6, Loads P 22 ((⟨r, 0, none⟩ : Addr).add 1) (.slice a4 a5 a6) wv /\ Calls P 20 ⟨[.slice a4 a5 a6, .int .i64 k]⟩ wv fun e a7 =>
 ∃ t8, e = .returned (.int .i64 t8) /\
 R (.int .i64 t8) a7
theorem laws_markSigned_ret {a0 : Bool} {a : Option Addr} {a1 a2 : Nat} {k : Int} (h : laws_markSigned a0 a a1 a2 k w R) : Ret P 72 [.agg #[.bool a0, .slice a a1 a2], .int .i64 k] w R := Ret.of_fsem Tryz.func72 rfl (Eq.mp (show _ = fsem P Tryz.f72 (fun k => []) _ R w from by kernel_rfl) h)
def laws_heldIntS (a0 : Option Addr) (a1 a2 : Nat) (k : Int) (w : World) (R : Value -> World -> Prop) : Prop :=
 ∃ (a3 : Int -> Int -> World -> Prop) (mu : Int -> Int -> World -> Nat), a3 k 0 w /\
 ∀ (a4 : Fr) (wv : World) (k_1 i : Int), a3 k_1 i wv ->
 ((decide ((i : Int) < ((a1 : Nat) : Int))) = true ->
 (0 <= (i : Int) /\ (i : Int) < (a1 : Nat)) /\ ptrS a0 fun ad => ∃ a5, Loads P 3 (ad.add (i.toNat * 1)) (.int .i64 a5) wv /\ ((decide ((a5 : Int) ≠ k_1)) = true ->
 R (.int .i64 (-1)) wv) /\
 ((decide ((a5 : Int) ≠ k_1)) = false ->
 ∃ a6 : Int, a6 = IntKind.wrap .i64 (k_1 + 1) /\ ∃ a7 : Int, a7 = IntKind.wrap .i64 (i + 1) /\ a3 a6 a7 wv /\ mu a6 a7 wv < mu k_1 i wv)) /\
 ((decide ((i : Int) < ((a1 : Nat) : Int))) = false ->
 R (.int .i64 k_1) wv)
theorem laws_heldIntS_ret {a : Option Addr} {a0 a1 : Nat} {k : Int} (h : laws_heldIntS a a0 a1 k w R) : Ret P 74 [.slice a a0 a1, .int .i64 k] w R := Ret.of_fsem Tryz.func74 rfl (Eq.mp (show _ = fsem P Tryz.f74 (fun k => cond (Nat.beq k 3) [(1, .one (.int .i64)), (5, .one (.int .i64))] ([])) _ R w from by kernel_rfl) h)
def laws_szIntS (a0 : Option Addr) (a1 a2 : Nat) (left : Int) (w : World) (R : Value -> World -> Prop) : Prop :=
 ∃ t8 : Int, t8 = IntKind.wrap .i64 (left - ((a1 : Nat) : Int)) /\ ((decide ((t8 : Int) < 0)) = true ->
 R (.int .i64 (-1)) w) /\
 ((decide ((t8 : Int) < 0)) = false ->
 R (.int .i64 t8) w)
theorem laws_szIntS_ret {a : Option Addr} {a0 a1 : Nat} {a2 : Int} (h : laws_szIntS a a0 a1 a2 w R) : Ret P 76 [.slice a a0 a1, .int .i64 a2] w R := Ret.of_fsem Tryz.func76 rfl (Eq.mp (show _ = fsem P Tryz.f76 (fun k => []) _ R w from by kernel_rfl) h)
def laws_heldSigned (a0 : Bool) (a1 : Option Addr) (a2 a3 : Nat) (k : Int) (w : World) (R : Value -> World -> Prop) : Prop :=
 ∀ r wv, New w (.cells ⟨[.bool a0, .slice a1 a2 a3]⟩ 31 (0, 0)) r wv ->
 ∃ a4 a5 a6, Loads P 22 ((⟨r, 0, none⟩ : Addr).add 1) (.slice a4 a5 a6) wv /\ Calls P 74 ⟨[.slice a4 a5 a6, .int .i64 k]⟩ wv fun e a7 =>
 ∃ t8, e = .returned (.int .i64 t8) /\
 ((decide ((t8 : Int) < 0)) = true ->
 R (.int .i64 (-1)) a7) /\
 ((decide ((t8 : Int) < 0)) = false ->
 R (.int .i64 t8) a7)
theorem laws_heldSigned_ret {a0 : Bool} {a : Option Addr} {a1 a2 : Nat} {k : Int} (h : laws_heldSigned a0 a a1 a2 k w R) : Ret P 100 [.agg #[.bool a0, .slice a a1 a2], .int .i64 k] w R := Ret.of_fsem Tryz.func100 rfl (Eq.mp (show _ = fsem P Tryz.f100 (fun k => []) _ R w from by kernel_rfl) h)
end Go.Proofs.YtfehpaekbbmkcaaGreatDoor
namespace Go.Proofs.YtfehpaekbbmkcaaGreatDoor.Sx
open Go Go.RowKit
theorem Ext.le {a b : World} (h : Ext a b) : a.heap.size <= b.heap.size := h.size
def Seg (w : World) (b off : Nat) (cs : List Value) : Prop := ∀ j v, cs[j]? = some v -> w.cell? ⟨b, off + j, none⟩ = some v
theorem Seg.nil {w : World} {b off : Nat} : Seg w b off [] := fun j v h => by simp at h
theorem Seg.drop {w : World} {b off : Nat} {cs : List Value} (h : Seg w b off cs) (k : Nat) : Seg w b (off + k) (cs.drop k) := fun j v hj => by
  rw [List.getElem?_drop] at hj
  have := h _ _ hj
  rwa [Nat.add_assoc]
theorem Seg.take {w : World} {b off : Nat} {cs : List Value} (h : Seg w b off cs) (k : Nat) : Seg w b off (cs.take k) := fun j v hj => by
  rw [List.getElem?_take] at hj
  split at hj
  · exact h _ _ hj
  · cases hj
theorem Seg.ext {w w' : World} {b off : Nat} {cs : List Value} (h : Seg w b off cs) (he : Ext w w') : Seg w' b off cs := fun j v hj => by
  have h1 := h j v hj
  rw [<- h1]
  exact he.cell (World.block_lt_of_cell? w _ h1)
theorem Seg.chg {S : List Nat} {w w' : World} {b off : Nat} {cs : List Value} (h : Seg w b off cs) (he : Chg S w w') (hb : b ∉ S) : Seg w' b off cs := fun j v hj => by
  have h1 := h j v hj
  rw [<- h1]
  exact World.cell?_of_block (he.block b (World.block_lt_of_cell? w _ h1) hb)
def Blk (w : World) (b : Nat) (e : TypeId) (xs : List Value) : Prop := w.heap[b]? = some (.cells ⟨xs⟩ e (0, 0))
theorem Blk.lt {w : World} {b : Nat} {e : TypeId} {xs : List Value} (h : Blk w b e xs) : b < w.heap.size := (Array.getElem?_eq_some_iff.1 h).1
theorem Blk.ext {w w' : World} {b : Nat} {e : TypeId} {xs : List Value} (h : Blk w b e xs) (he : Ext w w') : Blk w' b e xs := (he.block b h.lt).trans h
theorem Blk.chg {S : List Nat} {w w' : World} {b : Nat} {e : TypeId} {xs : List Value} (h : Blk w b e xs) (he : Chg S w w') (hb : b ∉ S) : Blk w' b e xs := (he.block b h.lt hb).trans h
theorem Blk.cell {w : World} {b : Nat} {e : TypeId} {xs : List Value} (h : Blk w b e xs) (j : Nat) : w.cell? ⟨b, j, none⟩ = xs[j]? := by
  rw [cell_of_row w b j _ e (0, 0) h]; simp
theorem Blk.seg {w : World} {b : Nat} {e : TypeId} {xs : List Value} (h : Blk w b e xs) : Seg w b 0 xs := fun j v hj => by rw [Nat.zero_add, h.cell, hj]
theorem New.ext {w w' : World} {o : Obj} {r : Nat} (h : New w o r w') : Ext w w' := by
  obtain ⟨rfl, rfl⟩ := h
  exact (Below.refl _ _).alloc (Nat.le_refl _) _
theorem New.size {w w' : World} {o : Obj} {r : Nat} (h : New w o r w') : w'.heap.size = w.heap.size + 1 := by
  obtain ⟨rfl, rfl⟩ := h; simp
theorem New.blk {w w' : World} {xs : List Value} {e : TypeId} {r : Nat} (h : New w (.cells ⟨xs⟩ e (0, 0)) r w') : Blk w' r e xs := by
  obtain ⟨rfl, rfl⟩ := h
  exact heap_alloc_new w _
theorem addr_add (b o k : Nat) : (⟨b, o, none⟩ : Addr).add k = ⟨b, o + k, none⟩ := Addr.add_lit b o k
section
variable {P : Program}
def cellT (P : Program) (t : TypeId) : Bool :=
  match P.underlying t, P.info? t with
  | some (.struct _), _ => false
  | some (.array _ _), _ => false
  | some _, some i => Nat.beq i.size 1
  | _, _ => false
def aggT (P : Program) (t : TypeId) (n : Nat) : Bool :=
  match P.underlying t, P.info? t with
  | some (.struct _), some i => Nat.beq i.size n
  | some (.array _ _), some i => Nat.beq i.size n
  | _, _ => false
theorem cellT_spec {t : TypeId} (h : cellT P t = true) : (∀ w, (isAgg t).run P w = .ok false w) /\ ∃ i, P.info? t = some i /\ i.size = 1 := by
  unfold cellT at h
  split at h <;> try cases h
  rename_i d i hs ha hu hi
  refine ⟨fun w => ?_, i, hi, Nat.eq_of_beq_eq_true h⟩
  unfold isAgg
  rw [Sem.run_bind, underlying_run hu w]
  cases d <;> first | rfl | (exact absurd rfl (hs _)) | (exact absurd rfl (ha _ _))
theorem aggT_spec {t : TypeId} {n : Nat} (h : aggT P t n = true) : (∀ w, (isAgg t).run P w = .ok true w) /\ ∃ i, P.info? t = some i /\ i.size = n := by
  unfold aggT at h
  split at h
  · rename_i fs i hu hi
    exact ⟨fun w => by unfold isAgg; rw [Sem.run_bind, underlying_run hu w]; rfl, i, hi, Nat.eq_of_beq_eq_true h⟩
  · rename_i k e i hu hi
    exact ⟨fun w => by unfold isAgg; rw [Sem.run_bind, underlying_run hu w]; rfl, i, hi, Nat.eq_of_beq_eq_true h⟩
  · cases h
theorem loads1 {w : World} {t : TypeId} {b o : Nat} {v : Value} (ht : cellT P t = true) (h : w.cell? ⟨b, o, none⟩ = some v) : Loads P t ⟨b, o, none⟩ v w := by
  unfold Loads loadVar
  rw [Sem.run_bind, (cellT_spec ht).1]
  simp [h]
theorem loadsA {w : World} {t : TypeId} {b o : Nat} {cs : List Value} (ht : aggT P t cs.length = true) (h : Seg w b o cs) : Loads P t ⟨b, o, none⟩ (.agg ⟨cs⟩) w := by
  obtain ⟨h1, i, hi, hn⟩ := aggT_spec ht
  unfold Loads loadVar
  rw [Sem.run_bind, h1]
  simp only [Result.andThen_ok, if_true, Sem.run_bind, sizeOf_run hi, hn]
  rw [run_loadCells_list (P := P) w ⟨b, o, none⟩ cs fun j v hv => by rw [addr_add]; exact h j v hv]
  rfl
theorem Seg.load {w : World} {t : TypeId} {b o k : Nat} {cs : List Value} {v : Value} (h : Seg w b o cs) (ht : cellT P t = true) (hx : cs[k]? = some v) : Loads P t ((⟨b, o, none⟩ : Addr).add k) v w := by
  rw [addr_add]; exact loads1 ht (h _ _ hx)
theorem Seg.loadA {w : World} {t : TypeId} {b o k : Nat} {cs xs : List Value} (h : Seg w b o cs) (ht : aggT P t xs.length = true) (hx : (cs.drop k).take xs.length = xs) : Loads P t ((⟨b, o, none⟩ : Addr).add k) (.agg ⟨xs⟩) w := by
  rw [addr_add]
  refine loadsA ht ?_
  have := (h.drop k).take xs.length
  rwa [hx] at this
theorem Blk.load {w : World} {t : TypeId} {b k : Nat} {e : TypeId} {cs : List Value} {v : Value} (h : Blk w b e cs) (ht : cellT P t = true) (hx : cs[k]? = some v) : Loads P t ((⟨b, 0, none⟩ : Addr).add k) v w :=
  h.seg.load ht hx
theorem Blk.loadA {w : World} {t : TypeId} {b k : Nat} {e : TypeId} {cs xs : List Value} (h : Blk w b e cs) (ht : aggT P t xs.length = true) (hx : (cs.drop k).take xs.length = xs) : Loads P t ((⟨b, 0, none⟩ : Addr).add k) (.agg ⟨xs⟩) w :=
  h.seg.loadA ht hx
theorem setRow_chg (w : World) (b : Nat) (cs : Array Value) : Chg [b] w (w.setRow b cs) :=
  ⟨rfl, rfl, rfl, by simp, fun k _ hk => setRow_other w b k _ (by simpa using hk)⟩
theorem Blk.store {w : World} {t : TypeId} {b k : Nat} {e : TypeId} {cs : List Value} {v : Value} (h : Blk w b e cs) (ht : cellT P t = true) (hk : k < cs.length) (hv : v.oneCell' = true) :
    ∃ w', Stores P t ((⟨b, 0, none⟩ : Addr).add k) v w w' /\ Blk w' b e (cs.set k v) /\ Chg [b] w w' /\ w'.heap.size = w.heap.size := by
  obtain ⟨_, i, hi, hn⟩ := cellT_spec ht
  have hc : v.cells = #[v] := by cases v <;> first | rfl | (simp [Value.oneCell'] at hv)
  have hst := run_storeCells_at P b k e [v] 0 ⟨cs⟩ w h (by simp only [List.length_cons, List.length_nil]; show k + 0 + 1 <= cs.length; omega) (by simpa using hv)
  refine ⟨_, ?_, setRow_heap w b ⟨cs⟩ _ e _ h, setRow_chg _ _ _, by simp⟩
  · unfold Stores storeVar
    rw [addr_add, Nat.zero_add]
    simp only [Sem.run_bind, sizeOf_run hi, Result.andThen_ok, hc, hn, List.size_toArray, List.length_cons, List.length_nil]
    simp only [Nat.zero_add, ne_eq, not_true, if_false, Sem.run_pure, Result.andThen_ok]
    rw [hst]
    congr 3
    simp only [Nat.add_zero, List.length_cons, List.length_nil, Nat.zero_add]
    rw [List.set_eq_take_append_cons_drop]
    simp [hk]
theorem Blk.storeA {w : World} {t : TypeId} {b k : Nat} {e : TypeId} {cs xs : List Value} (h : Blk w b e cs) (ht : aggT P t xs.length = true) (hk : k + xs.length <= cs.length) (hv : ∀ v ∈ xs, v.oneCell' = true) :
    ∃ w', Stores P t ((⟨b, 0, none⟩ : Addr).add k) (.agg ⟨xs⟩) w w' /\ Blk w' b e (cs.take k ++ xs ++ cs.drop (k + xs.length)) /\ Chg [b] w w' /\ w'.heap.size = w.heap.size := by
  obtain ⟨_, i, hi, hn⟩ := aggT_spec ht
  have hst := run_storeCells_at P b k e xs 0 ⟨cs⟩ w h (by simpa using hk) hv
  refine ⟨_, ?_, setRow_heap w b ⟨cs⟩ _ e _ h, setRow_chg _ _ _, by simp⟩
  unfold Stores storeVar
  rw [addr_add, Nat.zero_add]
  simp only [Sem.run_bind, sizeOf_run hi, Result.andThen_ok, Value.cells, hn, List.size_toArray]
  simp only [ne_eq, not_true, if_false, Sem.run_pure, Result.andThen_ok]
  rw [hst]
  simp
def sliceT (P : Program) (t e : TypeId) (z : Value) (size bytes : Nat) : Prop :=
 P.underlying t = some (.slice e) /\ (P.info? e).map (fun i => (i.zero, i.size, i.bytes)) = some (some z, size, bytes) /\ z.cells.size = size /\ 0 < size
def Own (w : World) (base : Nat) (e : TypeId) (size : Nat) (p : Option Addr) (n c : Nat) (xs : List Value) : Prop := w.ownsRow base e size (.slice p n c) n xs
theorem Own.nil (w : World) (base : Nat) (e : TypeId) (size : Nat) : Own w base e size none 0 0 [] := World.ownsRow_nil w base e size
theorem Own.ext {w w' : World} {base : Nat} {e : TypeId} {size : Nat} {p : Option Addr} {n c : Nat} {xs : List Value} (h : Own w base e size p n c xs) (he : Ext w w') : Own w' base e size p n c xs :=
  h.kept (row := none) ⟨he.os, he.tape, he.output, he.size, fun k hk _ => he.block k hk⟩ (by cases p <;> simp [Value.ownBlock])
theorem Own.of_blk {w : World} {base : Nat} {e : TypeId} {size : Nat} {r n : Nat} {xs : List Value} (h : Blk w r e xs) (hb : base <= r) (hl : xs.length = n * size) (hn : n <= maxLen) : Own w base e size (some ⟨r, 0, none⟩) n n xs :=
  ⟨hl, .inr ⟨r, n, ⟨xs⟩, rfl, hb, h, Nat.le_refl _, hn, by simpa using hl, by simp [<- hl]⟩⟩
theorem Own.of_blk0 {w : World} {base : Nat} {e : TypeId} {size : Nat} {r n : Nat} {xs : List Value} (h : Blk w r e xs) (hb : base <= r) (hl : xs.length = n * size) (hn : n <= maxLen) : Own w base e size (some ⟨r, 0, none⟩) 0 n [] :=
  ⟨by simp, .inr ⟨r, n, ⟨xs⟩, rfl, hb, h, Nat.zero_le _, hn, by simpa using hl, by simp⟩⟩
theorem Own.len {w : World} {base : Nat} {e : TypeId} {size : Nat} {p : Option Addr} {n c : Nat} {xs : List Value} (h : Own w base e size p n c xs) : xs.length = n * size := h.1
theorem Own.le {w : World} {base : Nat} {e : TypeId} {size : Nat} {p : Option Addr} {n c : Nat} {xs : List Value} (h : Own w base e size p n c xs) : n <= c := by
  rcases h.2 with ⟨h1, h2⟩ | ⟨g, cap, cur, h1, _, _, h3, _⟩
  · omega
  · simp only [Value.slice.injEq] at h1; omega
theorem Own.capLe {w : World} {base : Nat} {e : TypeId} {size : Nat} {p : Option Addr} {n c : Nat} {xs : List Value} (h : Own w base e size p n c xs) : c <= 9223372036854775807 := by
  rcases h.2 with ⟨h1, h2⟩ | ⟨g, cap, cur, h1, _, _, h3, h4, _⟩
  · simp only [Value.slice.injEq] at h1; omega
  · simp only [Value.slice.injEq] at h1; simp only [maxLen] at h4; omega
theorem Own.seg {w : World} {base : Nat} {e : TypeId} {size : Nat} {p : Option Addr} {n c : Nat} {xs : List Value} (h : Own w base e size p n c xs) (hn : 0 < n) : ∃ b, p = some ⟨b, 0, none⟩ /\ base <= b /\ Seg w b 0 xs := by
  rcases h.2 with ⟨h1, h2⟩ | ⟨g, cap, cur, h1, hb, hg, h3, h4, h5, h6⟩
  · omega
  · simp only [Value.slice.injEq] at h1
    refine ⟨g, h1.1, hb, fun j v hj => ?_⟩
    rw [Nat.zero_add, cell_of_row w g j cur e (0, 0) hg]
    rw [<- h6, List.getElem?_take] at hj
    split at hj
    · simpa using hj
    · cases hj
theorem Own.mono {w : World} {base base' : Nat} {e : TypeId} {size : Nat} {p : Option Addr} {n c : Nat} {xs : List Value} (h : Own w base e size p n c xs) (hb : base' <= base) : Own w base' e size p n c xs := by
  refine ⟨h.1, ?_⟩
  rcases h.2 with h1 | ⟨g, cap, cur, h1, h2, h3⟩
  · exact .inl h1
  · exact .inr ⟨g, cap, cur, h1, Nat.le_trans hb h2, h3⟩
theorem Own.append {w : World} {base : Nat} {t e : TypeId} {z : Value} {size bytes : Nat} {p : Option Addr} {n c r m mc : Nat} {xs news : List Value} (h : Own w base e size p n c xs)
    (hT : sliceT P t e z size bytes) (hb : base <= w.heap.size) (hr : Blk w r e news) (hl : news.length = m * size) (h1 : ∀ u ∈ news, u.oneCell' = true)
    (hbytes : (n + m) * bytes <= 140737488355328) (hby : 1 <= bytes) :
    ∃ p' c' w', Appends P [t, t] [.slice p n c, .slice (some ⟨r, 0, none⟩) m mc] (.slice p' (n + m) c') w w' /\ Own w' base e size p' (n + m) c' (xs ++ news) /\
      (∀ w0, Ext w0 w -> w0.heap.size <= base -> Ext w0 w') /\ (∀ b e' ys, Blk w b e' ys -> p.map (·.block) ≠ some b -> Blk w' b e' ys) /\
      (∀ b o ys, Seg w b o ys -> p.map (·.block) ≠ some b -> Seg w' b o ys) := by
  obtain ⟨hu, hi, hz, hs⟩ := hT
  cases hinf : P.info? e with
  | none => rw [hinf] at hi; cases hi
  | some i =>
    rw [hinf] at hi
    simp only [Option.map_some, Option.some.injEq, Prod.mk.injEq] at hi
    have hnm : n + m <= maxLen := by
      have : n + m <= (n + m) * bytes := Nat.le_mul_of_pos_right _ hby
      simp only [maxLen]; omega
    obtain ⟨v', w', hrun, hown, hgr, _⟩ := run_append_own (P := P) w base t 0 e i z size bytes hu hinf hi.1 hi.2.1 hi.2.2 hz hs (.slice p n c) n xs h ⟨r, 0, none⟩ m mc news hl
      (fun j u hj => by rw [addr_add, Nat.zero_add, hr.cell, hj]) h1 hnm hbytes hb
    have hlt := h.lt
    have hv : ∃ p' c', v' = .slice p' (n + m) c' := by
      rcases hown.2 with ⟨e1, e2⟩ | ⟨g, cap, cur, e1, _⟩
      · exact ⟨none, 0, by rw [e1, e2]⟩
      · exact ⟨_, _, e1⟩
    obtain ⟨p', c', rfl⟩ := hv
    have hob : (Value.slice p n c).ownBlock = p.map (·.block) := by cases p <;> rfl
    refine ⟨p', c', w', hrun, hown, ?_, ?_, ?_⟩
    · intro w0 hx hb0
      refine hx.chg (S := (p.map (·.block)).toList) ⟨hgr.os, hgr.tape, hgr.output, hgr.size, fun k hk hn => hgr.block k hk ?_⟩ ?_
      · rw [hob]; intro e; rw [<- e] at hn; simp at hn
      · intro x hx'
        have := (hlt x (by rw [hob]; cases p <;> simp_all)).1
        omega
    · intro b e' ys hy hne
      exact (hgr.block b hy.lt (by rw [hob]; exact fun e => hne e.symm)).trans hy
    · intro b o ys hy hne j v hj
      have h3 := hy j v hj
      rw [<- h3]
      exact World.cell?_of_block (hgr.block b (World.block_lt_of_cell? w _ h3) (by rw [hob]; exact fun e => hne e.symm))
end
def IntsR (w : World) (p : Option Addr) (n c : Nat) (zs : List Int) : Prop :=
 zs.length = n /\ n <= c /\ c <= 9223372036854775807 /\ (0 < n -> ∃ b off, p = some ⟨b, off, none⟩ /\ Seg w b off (zs.map (Value.int .i64)))
theorem IntsR.ext {w w' : World} {p : Option Addr} {n c : Nat} {zs : List Int} (h : IntsR w p n c zs) (he : Ext w w') : IntsR w' p n c zs :=
  ⟨h.1, h.2.1, h.2.2.1, fun hn => let ⟨b, off, hp, hs⟩ := h.2.2.2 hn; ⟨b, off, hp, hs.ext he⟩⟩
theorem IntsR.chg {S : List Nat} {w w' : World} {p : Option Addr} {n c : Nat} {zs : List Int} (h : IntsR w p n c zs) (he : Chg S w w') (hS : ∀ b, p.map (·.block) = some b -> b ∉ S) : IntsR w' p n c zs :=
  ⟨h.1, h.2.1, h.2.2.1, fun hn => let ⟨b, off, hp, hs⟩ := h.2.2.2 hn; ⟨b, off, hp, hs.chg he (hS b (by rw [hp]; rfl))⟩⟩
theorem IntsR.nil (w : World) (p : Option Addr) {c : Nat} (hc : c <= 9223372036854775807) : IntsR w p 0 c [] := ⟨rfl, Nat.zero_le _, hc, fun h => absurd h (by omega)⟩
theorem Own.ints {w : World} {base : Nat} {e : TypeId} {p : Option Addr} {n c : Nat} {zs : List Int} (h : Own w base e 1 p n c (zs.map (Value.int .i64))) : IntsR w p n c zs :=
  ⟨by simpa using h.len, h.le, h.capLe, fun hn => let ⟨b, hp, _, hs⟩ := h.seg hn; ⟨b, 0, hp, hs⟩⟩
theorem IntsR.at {P : Program} {w : World} {p : Option Addr} {n c k : Nat} {zs : List Int} (h : IntsR w p n c zs) {t : TypeId} (ht : cellT P t = true) (hk : k < n) :
    ∃ a, p = some a /\ Loads P t (a.add (k * 1)) (.int .i64 (zs[k]'(by rw [h.1]; exact hk))) w := by
  obtain ⟨b, off, hp, hs⟩ := h.2.2.2 (by omega)
  refine ⟨_, hp, ?_⟩
  rw [Nat.mul_one]
  exact hs.load ht (by simp [List.getElem?_eq_getElem (by rw [h.1]; exact hk : k < zs.length)])
theorem wrap64 {e : Int} (h1 : -9223372036854775808 <= e) (h2 : e <= 9223372036854775807) : IntKind.wrap .i64 e = e := by
  simp only [IntKind.wrap, IntKind.bits, IntKind.signed]
  by_cases h0 : 0 <= e
  · have : e % (2 ^ 64 : Int) = e := Int.emod_eq_of_lt h0 (by omega)
    simp [this]; omega
  · have : e % (2 ^ 64 : Int) = e + 2 ^ 64 := by omega
    simp [this]; omega
theorem exW {e : Int} {Q : Int -> Prop} (h : -9223372036854775808 <= e /\ e <= 9223372036854775807) (hq : Q e) : ∃ z, z = IntKind.wrap .i64 e /\ Q z := ⟨e, (wrap64 h.1 h.2).symm, hq⟩
theorem ifD {p : Prop} [Decidable p] {A B : Prop} (ha : p -> A) (hb : ¬ p -> B) : (decide p = true -> A) /\ (decide p = false -> B) :=
  ⟨fun h => ha (of_decide_eq_true h), fun h => hb (of_decide_eq_false h)⟩
theorem ifN {b : Bool} {A B : Prop} (ha : b = false -> A) (hb : b = true -> B) : ((!b) = true -> A) /\ ((!b) = false -> B) := ⟨fun h => ha (by simpa using h), fun h => hb (by simpa using h)⟩
theorem ifT {A B : Prop} (ha : A) : (true = true -> A) /\ (true = false -> B) := ⟨fun _ => ha, fun h => nomatch h⟩
theorem ifF {A B : Prop} (hb : B) : (false = true -> A) /\ (false = false -> B) := ⟨fun h => (nomatch h), fun _ => hb⟩
theorem zeroRow_int (k : IntKind) (z : Int) (n : Nat) : zeroRow (.int k z) n = List.replicate n (.int k z) := by
  unfold zeroRow
  apply List.ext_getElem
  · simp
  · intro i h1 h2
    simp [Value.cells, Nat.mod_one]
end Go.Proofs.YtfehpaekbbmkcaaGreatDoor.Sx
namespace Go.Proofs.YtfehpaekbbmkcaaGreatDoor.Sx
open Go Go.RowKit
inductive D0 where
  | int (n : Int) | bool (b : Bool) | str (s : ByteArray) | ints (l : List Int)
  deriving DecidableEq
inductive C0 where
  | int | bool | str | ints
  deriving DecidableEq
def D0.code : D0 -> C0
  | .int _ => .int
  | .bool _ => .bool
  | .str _ => .str
  | .ints _ => .ints
def Rep0 (w : World) (v : Value) : D0 -> Prop
  | .int n => v = .int .i64 n
  | .bool b => v = .bool b
  | .str s => v = .string s
  | .ints zs => ∃ p n c, v = .slice p n c /\ IntsR w p n c zs
def Reps (w : World) : List Value -> List D0 -> Prop
  | [], [] => True
  | v :: vs, d :: ds => Rep0 w v d /\ Reps w vs ds
  | _, _ => False
theorem Rep0.ext {w w' : World} {v : Value} {d : D0} (h : Rep0 w v d) (he : Ext w w') : Rep0 w' v d := by
  cases d <;> simp only [Rep0] at h ⊢ <;> try exact h
  obtain ⟨p, n, c, hv, hi⟩ := h
  exact ⟨p, n, c, hv, hi.ext he⟩
theorem Reps.ext {w w' : World} : ∀ {vs : List Value} {ds : List D0}, Reps w vs ds -> Ext w w' -> Reps w' vs ds
  | [], [], _, _ => trivial
  | [], _ :: _, h, _ => h.elim
  | _ :: _, [], h, _ => h.elim
  | _ :: _, _ :: _, h, he => ⟨h.1.ext he, Reps.ext h.2 he⟩
theorem Reps.len {w : World} : ∀ {vs : List Value} {ds : List D0}, Reps w vs ds -> vs.length = ds.length
  | [], [], _ => rfl
  | [], _ :: _, h => h.elim
  | _ :: _, [], h => h.elim
  | _ :: _, _ :: _, h => by simp [Reps.len h.2]
theorem Reps.append {w : World} : ∀ {vs us : List Value} {ds es : List D0}, Reps w vs ds -> Reps w us es -> Reps w (vs ++ us) (ds ++ es)
  | [], _, [], _, _, k => k
  | [], _, _ :: _, _, h, _ => h.elim
  | _ :: _, _, [], _, h, _ => h.elim
  | _ :: _, _, _ :: _, _, h, k => ⟨h.1, Reps.append h.2 k⟩
theorem Reps.one {w : World} {vs : List Value} {ds : List D0} (h : Reps w vs ds) (h1 : ∀ v ∈ vs, v.oneCell' = true -> True) : True := trivial
theorem Rep0.cell1 {w : World} {v : Value} {d : D0} (h : Rep0 w v d) : v.oneCell' = true := by
  cases d <;> simp only [Rep0] at h
  case ints l => obtain ⟨p, n, c, hv, _⟩ := h; rw [hv]; rfl
  all_goals (rw [h]; rfl)
theorem Reps.cells1 {w : World} : ∀ {vs : List Value} {ds : List D0}, Reps w vs ds -> ∀ v ∈ vs, v.oneCell' = true
  | [], [], _, v, hv => by simp at hv
  | [], _ :: _, h, _, _ => h.elim
  | _ :: _, [], h, _, _ => h.elim
  | x :: xs, d :: ds, h, v, hv => by
    rcases List.mem_cons.1 hv with e | e
    · rw [e]; exact h.1.cell1
    · exact Reps.cells1 h.2 v e
theorem Reps.int {w : World} {vs : List Value} {ds : List D0} {cs : List C0} (h : Reps w vs ds) (hc : ds.map D0.code = .int :: cs) : ∃ n us es, vs = .int .i64 n :: us /\ ds = .int n :: es /\ Reps w us es /\ es.map D0.code = cs := by
  cases ds with
  | nil => simp at hc
  | cons d es =>
    cases vs with
    | nil => exact h.elim
    | cons v us =>
      simp only [List.map_cons, List.cons.injEq] at hc
      cases d <;> simp [D0.code] at hc
      rename_i n
      exact ⟨n, us, es, by rw [show v = _ from h.1], rfl, h.2, hc⟩
theorem Reps.bool {w : World} {vs : List Value} {ds : List D0} {cs : List C0} (h : Reps w vs ds) (hc : ds.map D0.code = .bool :: cs) : ∃ b us es, vs = .bool b :: us /\ ds = .bool b :: es /\ Reps w us es /\ es.map D0.code = cs := by
  cases ds with
  | nil => simp at hc
  | cons d es =>
    cases vs with
    | nil => exact h.elim
    | cons v us =>
      simp only [List.map_cons, List.cons.injEq] at hc
      cases d <;> simp [D0.code] at hc
      rename_i n
      exact ⟨n, us, es, by rw [show v = _ from h.1], rfl, h.2, hc⟩
theorem Reps.str {w : World} {vs : List Value} {ds : List D0} {cs : List C0} (h : Reps w vs ds) (hc : ds.map D0.code = .str :: cs) : ∃ s us es, vs = .string s :: us /\ ds = .str s :: es /\ Reps w us es /\ es.map D0.code = cs := by
  cases ds with
  | nil => simp at hc
  | cons d es =>
    cases vs with
    | nil => exact h.elim
    | cons v us =>
      simp only [List.map_cons, List.cons.injEq] at hc
      cases d <;> simp [D0.code] at hc
      rename_i n
      exact ⟨n, us, es, by rw [show v = _ from h.1], rfl, h.2, hc⟩
theorem Reps.ints {w : World} {vs : List Value} {ds : List D0} {cs : List C0} (h : Reps w vs ds) (hc : ds.map D0.code = .ints :: cs) :
    ∃ p n c zs us es, vs = .slice p n c :: us /\ ds = .ints zs :: es /\ IntsR w p n c zs /\ Reps w us es /\ es.map D0.code = cs := by
  cases ds with
  | nil => simp at hc
  | cons d es =>
    cases vs with
    | nil => exact h.elim
    | cons v us =>
      simp only [List.map_cons, List.cons.injEq] at hc
      cases d <;> simp [D0.code] at hc
      rename_i zs
      obtain ⟨p, n, c, hv, hi⟩ := h.1
      exact ⟨p, n, c, zs, us, es, by rw [hv], rfl, hi, h.2, hc⟩
theorem Reps.done {w : World} {vs : List Value} {ds : List D0} (h : Reps w vs ds) (hc : ds.map D0.code = []) : vs = [] /\ ds = [] := by
  have : ds = [] := by simpa using hc
  subst this
  cases vs with
  | nil => exact ⟨rfl, rfl⟩
  | cons _ _ => exact h.elim
def RowsR (w : World) (k : Nat) (p : Option Addr) (n c : Nat) (l : List (List D0)) : Prop :=
 l.length = n /\ n <= c /\ c <= 9223372036854775807 /\ (0 < n -> ∃ b off, p = some ⟨b, off, none⟩ /\ ∀ i x, l[i]? = some x -> ∃ cs, cs.length = k /\ Reps w cs x /\ Seg w b (off + i * k) cs)
theorem RowsR.ext {w w' : World} {k : Nat} {p : Option Addr} {n c : Nat} {l : List (List D0)} (h : RowsR w k p n c l) (he : Ext w w') : RowsR w' k p n c l :=
  ⟨h.1, h.2.1, h.2.2.1, fun hn => let ⟨b, off, hp, hs⟩ := h.2.2.2 hn; ⟨b, off, hp, fun i x hx => let ⟨cs, h1, h2, h3⟩ := hs i x hx; ⟨cs, h1, h2.ext he, h3.ext he⟩⟩⟩
theorem RowsR.nil (w : World) (k : Nat) (p : Option Addr) {c : Nat} (hc : c <= 9223372036854775807) : RowsR w k p 0 c [] := ⟨rfl, Nat.zero_le _, hc, fun h => absurd h (by omega)⟩
theorem RowsR.at {P : Program} {w : World} {k : Nat} {p : Option Addr} {n c i : Nat} {l : List (List D0)} (h : RowsR w k p n c l) {t : TypeId} (ht : aggT P t k = true) (hi : i < n) :
    ∃ a cs, p = some a /\ cs.length = k /\ Reps w cs (l[i]'(by rw [h.1]; exact hi)) /\ Loads P t (a.add (i * k)) (.agg ⟨cs⟩) w := by
  obtain ⟨b, off, hp, hs⟩ := h.2.2.2 (by omega)
  obtain ⟨cs, h1, h2, h3⟩ := hs i _ (List.getElem?_eq_getElem (by rw [h.1]; exact hi))
  refine ⟨_, cs, hp, h1, h2, ?_⟩
  rw [addr_add]
  exact loadsA (by rw [h1]; exact ht) h3
def D0.bulk : D0 -> Nat
  | .str s => s.size
  | .ints l => l.length
  | _ => 0
def bulks (ds : List D0) : Nat := (ds.map D0.bulk).sum
def D0.ok : D0 -> Prop
  | .int n => -9223372036854775808 <= n /\ n <= 9223372036854775807
  | .str s => s.size <= 9223372036854775807
  | .ints l => l.length <= 9223372036854775807
  | .bool _ => True
end Go.Proofs.YtfehpaekbbmkcaaGreatDoor.Sx
namespace Go.Proofs.YtfehpaekbbmkcaaGreatDoor.Sx
open Go Go.RowKit
section
variable {P : Program}
theorem Blk.load0 {w : World} {t : TypeId} {b k : Nat} {e : TypeId} {cs : List Value} {v : Value} (h : Blk w b e cs) (ht : cellT P t = true) (hx : cs[k]? = some v) : Loads P t ⟨b, k, none⟩ v w :=
  loads1 ht (by rw [h.cell]; exact hx)
theorem Blk.loadA0 {w : World} {t : TypeId} {b : Nat} {e : TypeId} {cs : List Value} (h : Blk w b e cs) (ht : aggT P t cs.length = true) : Loads P t ⟨b, 0, none⟩ (.agg ⟨cs⟩) w :=
  loadsA ht h.seg
theorem Blk.storeA0 {w : World} {t : TypeId} {b : Nat} {e : TypeId} {cs xs : List Value} (h : Blk w b e cs) (ht : aggT P t xs.length = true) (hk : xs.length = cs.length) (hv : ∀ v ∈ xs, v.oneCell' = true) :
    ∃ w', Stores P t ⟨b, 0, none⟩ (.agg ⟨xs⟩) w w' /\ Blk w' b e xs /\ Chg [b] w w' /\ w'.heap.size = w.heap.size := by
  obtain ⟨w', h1, h2, h3, h4⟩ := h.storeA (P := P) (k := 0) ht (by omega) hv
  rw [addr_add, Nat.zero_add] at h1
  refine ⟨w', h1, ?_, h3, h4⟩
  rw [List.take_zero, List.nil_append, Nat.zero_add, hk, List.drop_length, List.append_nil] at h2
  exact h2
end
def Own0 (w : World) (B : Nat) (v : Value) : D0 -> List Nat -> Prop
  | .int n, f => v = .int .i64 n /\ f = []
  | .bool b, f => v = .bool b /\ f = []
  | .str s, f => v = .string s /\ f = []
  | .ints zs, f => ∃ p n c, v = .slice p n c /\ Own w B T_int 1 p n c (zs.map (Value.int .i64)) /\ f = (p.map (·.block)).toList
def Owns (w : World) (B : Nat) : List Value -> List D0 -> List Nat -> Prop
  | [], [], f => f = []
  | v :: vs, d :: ds, f => ∃ f1 f2, f = f1 ++ f2 /\ Own0 w B v d f1 /\ Owns w B vs ds f2
  | _, _, _ => False
theorem Own0.rep {w : World} {B : Nat} {v : Value} {d : D0} {f : List Nat} (h : Own0 w B v d f) : Rep0 w v d := by
  cases d <;> simp only [Own0] at h <;> simp only [Rep0]
  case ints zs => obtain ⟨p, n, c, hv, ho, _⟩ := h; exact ⟨p, n, c, hv, ho.ints⟩
  all_goals exact h.1
theorem Owns.reps {w : World} {B : Nat} : ∀ {vs : List Value} {ds : List D0} {f : List Nat}, Owns w B vs ds f -> Reps w vs ds
  | [], [], _, _ => trivial
  | [], _ :: _, _, h => h.elim
  | _ :: _, [], _, h => h.elim
  | _ :: _, _ :: _, _, h => by
    obtain ⟨f1, f2, _, h1, h2⟩ := h
    exact ⟨h1.rep, Owns.reps h2⟩
theorem Own0.lt {w : World} {B : Nat} {v : Value} {d : D0} {f : List Nat} (h : Own0 w B v d f) : ∀ k ∈ f, B <= k /\ k < w.heap.size := by
  cases d <;> simp only [Own0] at h
  case ints zs =>
    obtain ⟨p, n, c, hv, ho, hf⟩ := h
    intro k hk
    rw [hf] at hk
    exact World.ownsRow.lt ho k (by cases p <;> simp_all [Value.ownBlock])
  all_goals (intro k hk; rw [h.2] at hk; simp at hk)
theorem Owns.lt {w : World} {B : Nat} : ∀ {vs : List Value} {ds : List D0} {f : List Nat}, Owns w B vs ds f -> ∀ k ∈ f, B <= k /\ k < w.heap.size
  | [], [], _, h, k, hk => by rw [h] at hk; simp at hk
  | [], _ :: _, _, h, _, _ => h.elim
  | _ :: _, [], _, h, _, _ => h.elim
  | _ :: _, _ :: _, _, h, k, hk => by
    obtain ⟨f1, f2, rfl, h1, h2⟩ := h
    rcases List.mem_append.1 hk with hk | hk
    · exact h1.lt k hk
    · exact Owns.lt h2 k hk
theorem Own0.ext {w w' : World} {B : Nat} {v : Value} {d : D0} {f : List Nat} (h : Own0 w B v d f) (he : Ext w w') : Own0 w' B v d f := by
  cases d <;> simp only [Own0] at h ⊢ <;> try exact h
  obtain ⟨p, n, c, hv, ho, hf⟩ := h
  exact ⟨p, n, c, hv, ho.ext he, hf⟩
theorem Owns.ext {w w' : World} {B : Nat} : ∀ {vs : List Value} {ds : List D0} {f : List Nat}, Owns w B vs ds f -> Ext w w' -> Owns w' B vs ds f
  | [], [], _, h, _ => h
  | [], _ :: _, _, h, _ => h.elim
  | _ :: _, [], _, h, _ => h.elim
  | _ :: _, _ :: _, _, h, he => by
    obtain ⟨f1, f2, rfl, h1, h2⟩ := h
    exact ⟨f1, f2, rfl, h1.ext he, Owns.ext h2 he⟩
theorem Own.chg {S : List Nat} {w w' : World} {B : Nat} {e : TypeId} {size : Nat} {p : Option Addr} {n c : Nat} {xs : List Value} (h : Own w B e size p n c xs) (he : Chg S w w') (hS : ∀ k, p.map (·.block) = some k -> k ∉ S) : Own w' B e size p n c xs := by
  refine ⟨h.1, ?_⟩
  rcases h.2 with h1 | ⟨g, cap, cur, h1, h2, h3, h4⟩
  · exact .inl h1
  · refine .inr ⟨g, cap, cur, h1, h2, ?_, h4⟩
    simp only [Value.slice.injEq] at h1
    rw [he.block g (Array.getElem?_eq_some_iff.1 h3).1 (hS g (by rw [h1.1]; rfl))]
    exact h3
theorem Own0.chg {S : List Nat} {w w' : World} {B : Nat} {v : Value} {d : D0} {f : List Nat} (h : Own0 w B v d f) (he : Chg S w w') (hS : ∀ k ∈ f, k ∉ S) : Own0 w' B v d f := by
  cases d <;> simp only [Own0] at h ⊢ <;> try exact h
  obtain ⟨p, n, c, hv, ho, hf⟩ := h
  exact ⟨p, n, c, hv, ho.chg he (fun k hk => hS k (by rw [hf, hk]; simp)), hf⟩
theorem Owns.chg {S : List Nat} {w w' : World} {B : Nat} : ∀ {vs : List Value} {ds : List D0} {f : List Nat}, Owns w B vs ds f -> Chg S w w' -> (∀ k ∈ f, k ∉ S) -> Owns w' B vs ds f
  | [], [], _, h, _, _ => h
  | [], _ :: _, _, h, _, _ => h.elim
  | _ :: _, [], _, h, _, _ => h.elim
  | _ :: _, _ :: _, _, h, he, hS => by
    obtain ⟨f1, f2, rfl, h1, h2⟩ := h
    exact ⟨f1, f2, rfl, h1.chg he (fun k hk => hS k (by simp [hk])), Owns.chg h2 he (fun k hk => hS k (by simp [hk]))⟩
theorem Owns.chg1 {r : Nat} {w w' : World} {B : Nat} {vs : List Value} {ds : List D0} {f : List Nat} (h : Owns w B vs ds f) (he : Chg [r] w w') (hr : r < B) : Owns w' B vs ds f :=
  h.chg he fun k hk hm => by
    have := (h.lt k hk).1
    simp at hm; omega
theorem Own0.mono {w : World} {B B' : Nat} {v : Value} {d : D0} {f : List Nat} (h : Own0 w B v d f) (hb : B' <= B) : Own0 w B' v d f := by
  cases d <;> simp only [Own0] at h ⊢ <;> try exact h
  obtain ⟨p, n, c, hv, ho, hf⟩ := h
  exact ⟨p, n, c, hv, ho.mono hb, hf⟩
theorem Owns.mono {w : World} {B B' : Nat} (hb : B' <= B) : ∀ {vs : List Value} {ds : List D0} {f : List Nat}, Owns w B vs ds f -> Owns w B' vs ds f
  | [], [], _, h => h
  | [], _ :: _, _, h => h.elim
  | _ :: _, [], _, h => h.elim
  | _ :: _, _ :: _, _, h => by
    obtain ⟨f1, f2, rfl, h1, h2⟩ := h
    exact ⟨f1, f2, rfl, h1.mono hb, Owns.mono hb h2⟩
theorem Owns.append {w : World} {B : Nat} : ∀ {vs us : List Value} {ds es : List D0} {f g : List Nat}, Owns w B vs ds f -> Owns w B us es g -> Owns w B (vs ++ us) (ds ++ es) (f ++ g)
  | [], _, [], _, f, g, h, k => by rw [show f = [] from h]; exact k
  | [], _, _ :: _, _, _, _, h, _ => h.elim
  | _ :: _, _, [], _, _, _, h, _ => h.elim
  | _ :: _, _, _ :: _, _, _, g, h, k => by
    obtain ⟨f1, f2, rfl, h1, h2⟩ := h
    exact ⟨f1, f2 ++ g, by simp, h1, Owns.append h2 k⟩
theorem Owns.nil (w : World) (B : Nat) : Owns w B [] [] [] := rfl
theorem Owns.bool (w : World) (B : Nat) (b : Bool) : Owns w B [.bool b] [.bool b] [] := ⟨[], [], rfl, ⟨rfl, rfl⟩, rfl⟩
theorem Owns.int (w : World) (B : Nat) (n : Int) : Owns w B [.int .i64 n] [.int n] [] := ⟨[], [], rfl, ⟨rfl, rfl⟩, rfl⟩
theorem Owns.str (w : World) (B : Nat) (s : ByteArray) : Owns w B [.string s] [.str s] [] := ⟨[], [], rfl, ⟨rfl, rfl⟩, rfl⟩
theorem Owns.ints {w : World} {B : Nat} {p : Option Addr} {n c : Nat} {zs : List Int} (h : Own w B T_int 1 p n c (zs.map (Value.int .i64))) : Owns w B [.slice p n c] [.ints zs] (p.map (·.block)).toList :=
  ⟨_, [], by simp, ⟨p, n, c, rfl, h, rfl⟩, rfl⟩
theorem nodup_append {f g : List Nat} {m : Nat} (hf : f.Nodup) (hg : g.Nodup) (h1 : ∀ k ∈ f, k < m) (h2 : ∀ k ∈ g, m <= k) : (f ++ g).Nodup := by
  rw [List.nodup_append]
  exact ⟨hf, hg, fun a ha b hb e => by have := h1 a ha; have := h2 b hb; omega⟩
theorem Blk.loadAt {P : Program} {w : World} {t : TypeId} {b : Nat} {e : TypeId} {cs : List Value} {v : Value} {a : Addr} (k : Nat) (h : Blk w b e cs) (ha : a = ⟨b, k, none⟩) (ht : cellT P t = true) (hx : cs[k]? = some v) : Loads P t a v w := by
  subst ha; exact h.load0 ht hx
theorem Blk.loadAAt {P : Program} {w : World} {t : TypeId} {b : Nat} {e : TypeId} {cs : List Value} {a : Addr} (k : Nat) (xs : List Value) (h : Blk w b e cs) (ha : a = ⟨b, k, none⟩) (ht : aggT P t xs.length = true) (hx : (cs.drop k).take xs.length = xs) : Loads P t a (.agg ⟨xs⟩) w := by
  subst ha
  have := h.loadA (P := P) (k := k) ht hx
  rwa [addr_add, Nat.zero_add] at this
theorem Seg.loadAt {P : Program} {w : World} {t : TypeId} {b o : Nat} {cs : List Value} {v : Value} {a : Addr} (k : Nat) (h : Seg w b o cs) (ha : a = ⟨b, o + k, none⟩) (ht : cellT P t = true) (hx : cs[k]? = some v) : Loads P t a v w := by
  subst ha; exact loads1 ht (h _ _ hx)
theorem Seg.loadAAt {P : Program} {w : World} {t : TypeId} {b o : Nat} {cs : List Value} {a : Addr} (k : Nat) (xs : List Value) (h : Seg w b o cs) (ha : a = ⟨b, o + k, none⟩) (ht : aggT P t xs.length = true) (hx : (cs.drop k).take xs.length = xs) : Loads P t a (.agg ⟨xs⟩) w := by
  subst ha
  have := h.loadA (P := P) (k := k) ht hx
  rwa [addr_add] at this
theorem New.fill {P : Program} {w w1 : World} {zs : List Value} {e : TypeId} {r : Nat} (hn : New w (.cells ⟨zs⟩ e (0, 0)) r w1) {t : TypeId} {xs : List Value} (hv : ∀ v ∈ xs, v.oneCell' = true) (ht : aggT P t xs.length = true) (hl : xs.length = zs.length) :
    ∃ w2, Stores P t ⟨r, 0, none⟩ (.agg ⟨xs⟩) w1 w2 /\ Blk w2 r e xs /\ Ext w w2 := by
  obtain ⟨w2, st, hb, ch, sz⟩ := hn.blk.storeA0 (P := P) (t := t) ht hl hv
  exact ⟨w2, st, hb, hn.ext.chg ch (by have := hn.r_eq; simp; omega)⟩
def AllO (w : World) (B k : Nat) : List (List Value) -> List (List D0) -> List (List Nat) -> Prop
  | [], [], [] => True
  | cs :: css, x :: l, f :: fs => cs.length = k /\ Owns w B cs x f /\ AllO w B k css l fs
  | _, _, _ => False
theorem AllO.ext {w w' : World} {B k : Nat} : ∀ {css : List (List Value)} {l : List (List D0)} {fs : List (List Nat)}, AllO w B k css l fs -> Ext w w' -> AllO w' B k css l fs
  | [], [], [], _, _ => trivial
  | _ :: _, _ :: _, _ :: _, h, he => ⟨h.1, h.2.1.ext he, AllO.ext h.2.2 he⟩
  | [], [], _ :: _, h, _ => h.elim
  | [], _ :: _, _, h, _ => h.elim
  | _ :: _, [], _, h, _ => h.elim
  | _ :: _, _ :: _, [], h, _ => h.elim
theorem AllO.chg {S : List Nat} {w w' : World} {B k : Nat} : ∀ {css : List (List Value)} {l : List (List D0)} {fs : List (List Nat)}, AllO w B k css l fs -> Chg S w w' -> (∀ x ∈ fs.flatten, x ∉ S) -> AllO w' B k css l fs
  | [], [], [], _, _, _ => trivial
  | _ :: _, _ :: _, _ :: _, h, he, hS => ⟨h.1, h.2.1.chg he (fun x hx => hS x (by simp [hx])), AllO.chg h.2.2 he (fun x hx => hS x (by rw [List.flatten_cons]; exact List.mem_append_right _ hx))⟩
  | [], [], _ :: _, h, _, _ => h.elim
  | [], _ :: _, _, h, _, _ => h.elim
  | _ :: _, [], _, h, _, _ => h.elim
  | _ :: _, _ :: _, [], h, _, _ => h.elim
theorem AllO.mono {w : World} {B B' k : Nat} (hb : B' <= B) : ∀ {css : List (List Value)} {l : List (List D0)} {fs : List (List Nat)}, AllO w B k css l fs -> AllO w B' k css l fs
  | [], [], [], _ => trivial
  | _ :: _, _ :: _, _ :: _, h => ⟨h.1, h.2.1.mono hb, AllO.mono hb h.2.2⟩
  | [], [], _ :: _, h => h.elim
  | [], _ :: _, _, h => h.elim
  | _ :: _, [], _, h => h.elim
  | _ :: _, _ :: _, [], h => h.elim
theorem AllO.lt {w : World} {B k : Nat} : ∀ {css : List (List Value)} {l : List (List D0)} {fs : List (List Nat)}, AllO w B k css l fs -> ∀ x ∈ fs.flatten, B <= x /\ x < w.heap.size
  | [], [], [], _, x, hx => by simp at hx
  | _ :: _, _ :: _, _ :: _, h, x, hx => by
    rw [List.flatten_cons, List.mem_append] at hx
    rcases hx with hx | hx
    · exact h.2.1.lt x hx
    · exact AllO.lt h.2.2 x hx
  | [], [], _ :: _, h, _, _ => h.elim
  | [], _ :: _, _, h, _, _ => h.elim
  | _ :: _, [], _, h, _, _ => h.elim
  | _ :: _, _ :: _, [], h, _, _ => h.elim
theorem AllO.snoc {w : World} {B k : Nat} {cs : List Value} {x : List D0} {f : List Nat} (hk : cs.length = k) (ho : Owns w B cs x f) : ∀ {css : List (List Value)} {l : List (List D0)} {fs : List (List Nat)}, AllO w B k css l fs -> AllO w B k (css ++ [cs]) (l ++ [x]) (fs ++ [f])
  | [], [], [], _ => ⟨hk, ho, trivial⟩
  | _ :: _, _ :: _, _ :: _, h => ⟨h.1, h.2.1, AllO.snoc hk ho h.2.2⟩
  | [], [], _ :: _, h => h.elim
  | [], _ :: _, _, h => h.elim
  | _ :: _, [], _, h => h.elim
  | _ :: _, _ :: _, [], h => h.elim
theorem AllO.len {w : World} {B k : Nat} : ∀ {css : List (List Value)} {l : List (List D0)} {fs : List (List Nat)}, AllO w B k css l fs -> css.length = l.length /\ css.flatten.length = l.length * k
  | [], [], [], _ => ⟨rfl, by simp⟩
  | cs :: css, x :: l, _ :: _, h => by
    have := AllO.len h.2.2
    refine ⟨by simp [this.1], ?_⟩
    rw [List.flatten_cons, List.length_append, this.2, h.1, List.length_cons, Nat.succ_mul, Nat.add_comm]
  | [], [], _ :: _, h => h.elim
  | [], _ :: _, _, h => h.elim
  | _ :: _, [], _, h => h.elim
  | _ :: _, _ :: _, [], h => h.elim
theorem AllO.cells1 {w : World} {B k : Nat} : ∀ {css : List (List Value)} {l : List (List D0)} {fs : List (List Nat)}, AllO w B k css l fs -> ∀ v ∈ css.flatten, v.oneCell' = true
  | [], [], [], _, v, hv => by simp at hv
  | _ :: _, _ :: _, _ :: _, h, v, hv => by
    rw [List.flatten_cons, List.mem_append] at hv
    rcases hv with hv | hv
    · exact h.2.1.reps.cells1 v hv
    · exact AllO.cells1 h.2.2 v hv
  | [], [], _ :: _, h, _, _ => h.elim
  | [], _ :: _, _, h, _, _ => h.elim
  | _ :: _, [], _, h, _, _ => h.elim
  | _ :: _, _ :: _, [], h, _, _ => h.elim
theorem AllO.at {w : World} {B k : Nat} : ∀ {css : List (List Value)} {l : List (List D0)} {fs : List (List Nat)}, AllO w B k css l fs -> ∀ i x, l[i]? = some x -> ∃ cs, cs.length = k /\ Reps w cs x /\ (css.flatten.drop (i * k)).take k = cs
  | [], [], [], _, i, x, hx => by simp at hx
  | cs :: css, y :: l, _ :: _, h, i, x, hx => by
    cases i with
    | zero =>
      simp only [List.getElem?_cons_zero, Option.some.injEq] at hx
      subst hx
      refine ⟨cs, h.1, h.2.1.reps, ?_⟩
      rw [Nat.zero_mul, List.drop_zero, List.flatten_cons, <- h.1, List.take_left]
    | succ i =>
      simp only [List.getElem?_cons_succ] at hx
      obtain ⟨c, h1, h2, h3⟩ := AllO.at h.2.2 i x hx
      refine ⟨c, h1, h2, ?_⟩
      rw [List.flatten_cons, Nat.succ_mul, Nat.add_comm, <- List.drop_drop, <- h.1, List.drop_left, h.1]
      exact h3
  | [], [], _ :: _, h, _, _, _ => h.elim
  | [], _ :: _, _, h, _, _, _ => h.elim
  | _ :: _, [], _, h, _, _, _ => h.elim
  | _ :: _, _ :: _, [], h, _, _, _ => h.elim
def OwnRows (w : World) (B : Nat) (e : TypeId) (k : Nat) (p : Option Addr) (n c : Nat) (l : List (List D0)) (f : List Nat) : Prop :=
 l.length = n /\ ∃ css fs, AllO w B k css l fs /\ Own w B e k p n c css.flatten /\ f = (p.map (·.block)).toList ++ fs.flatten /\ f.Nodup
theorem OwnRows.rows {w : World} {B : Nat} {e : TypeId} {k : Nat} {p : Option Addr} {n c : Nat} {l : List (List D0)} {f : List Nat} (h : OwnRows w B e k p n c l f) : RowsR w k p n c l := by
  obtain ⟨hl, css, fs, ha, ho, _, _⟩ := h
  refine ⟨hl, ho.le, ho.capLe, fun hn => ?_⟩
  obtain ⟨b, hp, _, hs⟩ := ho.seg hn
  refine ⟨b, 0, hp, fun i x hx => ?_⟩
  obtain ⟨cs, h1, h2, h3⟩ := ha.at i x hx
  exact ⟨cs, h1, h2, by rw [<- h3]; exact (hs.drop (i * k)).take k⟩
theorem OwnRows.lt {w : World} {B : Nat} {e : TypeId} {k : Nat} {p : Option Addr} {n c : Nat} {l : List (List D0)} {f : List Nat} (h : OwnRows w B e k p n c l f) : ∀ x ∈ f, B <= x /\ x < w.heap.size := by
  obtain ⟨hl, css, fs, ha, ho, rfl, _⟩ := h
  intro x hx
  rcases List.mem_append.1 hx with hx | hx
  · exact World.ownsRow.lt ho x (by cases p <;> simp_all [Value.ownBlock])
  · exact ha.lt x hx
theorem OwnRows.ext {w w' : World} {B : Nat} {e : TypeId} {k : Nat} {p : Option Addr} {n c : Nat} {l : List (List D0)} {f : List Nat} (h : OwnRows w B e k p n c l f) (he : Ext w w') : OwnRows w' B e k p n c l f := by
  obtain ⟨hl, css, fs, ha, ho, hf, hn⟩ := h
  exact ⟨hl, css, fs, ha.ext he, ho.ext he, hf, hn⟩
theorem OwnRows.mono {w : World} {B B' : Nat} {e : TypeId} {k : Nat} {p : Option Addr} {n c : Nat} {l : List (List D0)} {f : List Nat} (h : OwnRows w B e k p n c l f) (hb : B' <= B) : OwnRows w B' e k p n c l f := by
  obtain ⟨hl, css, fs, ha, ho, hf, hn⟩ := h
  exact ⟨hl, css, fs, ha.mono hb, ho.mono hb, hf, hn⟩
theorem OwnRows.chg {S : List Nat} {w w' : World} {B : Nat} {e : TypeId} {k : Nat} {p : Option Addr} {n c : Nat} {l : List (List D0)} {f : List Nat} (h : OwnRows w B e k p n c l f) (he : Chg S w w') (hS : ∀ x ∈ f, x ∉ S) : OwnRows w' B e k p n c l f := by
  obtain ⟨hl, css, fs, ha, ho, rfl, hn⟩ := h
  exact ⟨hl, css, fs, ha.chg he (fun x hx => hS x (List.mem_append_right _ hx)), ho.chg he (fun x hx => hS x (List.mem_append_left _ (by rw [hx]; simp))), rfl, hn⟩
theorem dec_no {p : Prop} [Decidable p] (h : ¬ p) : Value.bool false = Value.bool (decide p) := by simp [h]
theorem dec_yes {p : Prop} [Decidable p] (h : p) : Value.bool true = Value.bool (decide p) := by simp [h]
end Go.Proofs.YtfehpaekbbmkcaaGreatDoor.Sx
namespace Go.Proofs.YtfehpaekbbmkcaaGreatDoor
open Go Go.Proofs.YtfehpaekbbmkcaaGreatDoor.Sx
theorem take_set {α : Type} (l : List α) (d v : α) (k : Nat) (hk : k < l.length) (n : Nat) (hn : 0 < n) (h : l[k]? = some v) :
    (l.take k ++ List.replicate n d).set k v = l.take (k + 1) ++ List.replicate (n - 1) d := by
  have hlen : (l.take k).length = k := by simp; omega
  rw [List.set_append_right _ _ (by omega), hlen, Nat.sub_self]
  obtain ⟨m, rfl⟩ : ∃ m, n = m + 1 := ⟨n - 1, by omega⟩
  rw [List.replicate_succ, List.set_cons_zero, List.take_add_one, h]
  simp
theorem laws_toIntS_c {w : World} {p : Option Addr} {n c : Nat} {zs : List Int} (h : IntsR w p n c zs) (hn : n <= 1048576) :
    Ret P n_laws_toIntS [.slice p n c] w fun v w' => ∃ r, v = .slice (some ⟨r, 0, none⟩) n n /\ Own w' w.heap.size T_int 1 (some ⟨r, 0, none⟩) n n (zs.map (Value.int .i64)) /\ Ext w w' := by
  refine laws_toIntS_ret ?_
  unfold laws_toIntS
  refine ⟨⟨by omega, by omega, by omega⟩, fun r w1 hnew => ?_⟩
  have hlen := h.1
  refine ⟨fun i wr => ∃ k : Nat, i = k /\ k <= n /\ Ext w wr /\ Blk wr r T_int ((zs.map (Value.int .i64)).take k ++ List.replicate (n - k) (Value.int .i64 0)), fun i _ => n - i.toNat, ⟨0, rfl, by omega, hnew.ext, ?_⟩, ?_⟩
  · have := hnew.blk
    rw [zeroRow_int, Nat.mul_one] at this
    simpa using this
  · intro junk wr i ⟨k, hik, hk, hx, hb⟩
    subst hik
    refine ifD (fun hlt => ?_) (fun hge => ?_)
    · have hlt' : k < n := by omega
      obtain ⟨a, rfl, hl⟩ := (h.ext hx).at (P := P) (t := T_int) (by kernel_rfl) hlt'
      have hl2 : ((zs.map (Value.int .i64)).take k ++ List.replicate (n - k) (Value.int .i64 0)).length = n := by simp; omega
      obtain ⟨w2, hst, hb2, hc, hs⟩ := hb.store (P := P) (t := T_int) (k := k) (v := .int .i64 (zs[k]'(by omega))) (by kernel_rfl) (by omega) rfl
      refine ⟨⟨by omega, by omega⟩, zs[k]'(by omega), by simpa using hl, ⟨by omega, by omega⟩, w2, by simpa using hst, exW ⟨by omega, by omega⟩ ⟨⟨k + 1, by omega, by omega, hx.chg hc (by simp; have := hnew.r_eq; omega), ?_⟩, by simp; omega⟩⟩
      rw [take_set _ _ _ _ (by simp; omega) _ (by omega) (by simp [show k < zs.length by omega])] at hb2
      rwa [show n - (k + 1) = n - k - 1 by omega]
    · have hkn : k = n := by omega
      subst hkn
      refine ⟨r, rfl, ?_, hx⟩
      rw [Nat.sub_self, List.replicate_zero, List.append_nil, List.take_of_length_le (by simp; omega)] at hb
      exact Own.of_blk hb (by have := hnew.r_eq; omega) (by simp; omega) (by simp only [maxLen]; omega)
theorem laws_szIntS_c {w : World} {p : Option Addr} {n c : Nat} {left : Int} (h0 : 0 <= left) (h1 : left <= 1048576) (hn : n <= 9223372036854775807) :
    Ret P n_laws_szIntS [.slice p n c, .int .i64 left] w fun v w' => ∃ r : Int, v = .int .i64 r /\ (0 <= r -> r + n <= left) /\ r <= 1048576 /\ Ext w w' := by
  refine laws_szIntS_ret ?_
  unfold laws_szIntS
  refine exW ⟨by omega, by omega⟩ (ifD (fun h => ⟨_, rfl, by omega, by omega, Ext.refl _⟩) (fun h => ⟨_, rfl, by omega, by omega, Ext.refl _⟩))
theorem laws_eqIntS_c {w : World} {p q : Option Addr} {n c m d : Nat} {zs ys : List Int} (h : IntsR w p n c zs) (k : IntsR w q m d ys) :
    Ret P n_laws_eqIntS [.slice p n c, .slice q m d] w fun v w' => v = .bool (decide (zs = ys)) /\ Ext w w' := by
  refine laws_eqIntS_ret ?_
  unfold laws_eqIntS
  have hn : n <= 9223372036854775807 := Nat.le_trans h.2.1 h.2.2.1
  have hz := h.1
  have hy := k.1
  refine ifD (fun hne => ⟨?_, Ext.refl _⟩) (fun heq => ?_)
  · have : zs ≠ ys := fun e => hne (by rw [<- hz, <- hy, e])
    simp [this]
  · have hnm : n = m := by omega
    refine ⟨fun i wr => ∃ j : Nat, i = j /\ j <= n /\ Ext w wr /\ zs.take j = ys.take j, fun i _ => n - i.toNat, ⟨0, rfl, by omega, Ext.refl _, by simp⟩, ?_⟩
    intro junk wr i ⟨j, hij, hj, hx, he⟩
    subst hij
    refine ifD (fun hlt => ?_) (fun hge => ⟨?_, hx⟩)
    · have hjn : j < n := by omega
      have hx' := hx.trans (Ext.drew wr)
      obtain ⟨a, hpa, _⟩ := (h.ext hx').at (P := P) (t := T_int) (by kernel_rfl) hjn
      obtain ⟨b, hqb, _⟩ := (k.ext hx').at (P := P) (t := T_int) (by kernel_rfl) (show j < m by omega)
      subst hpa
      subst hqb
      have l1 : ∀ w', Ext wr.drew w' -> Loads P T_int (a.add ((j : Int).toNat * 1)) (.int .i64 (zs[j]'(by omega))) w' := fun w' hw => by
        obtain ⟨a', ha, hl⟩ := ((h.ext hx').ext hw).at (P := P) (t := T_int) (by kernel_rfl) hjn
        cases ha
        simpa using hl
      have l2 : ∀ w', Ext wr.drew w' -> Loads P T_int (b.add ((j : Int).toNat * 1)) (.int .i64 (ys[j]'(by omega))) w' := fun w' hw => by
        obtain ⟨a', ha, hl⟩ := ((k.ext hx').ext hw).at (P := P) (t := T_int) (by kernel_rfl) (show j < m by omega)
        cases ha
        simpa using hl
      refine ⟨⟨by omega, by omega⟩, _, l1, ⟨by omega, by omega⟩, _, l2, ifD (fun hne => ⟨?_, hx'⟩) (fun heq2 => ?_)⟩
      · have : zs ≠ ys := fun e => hne (by subst e; rfl)
        simp [this]
      · refine exW ⟨by omega, by omega⟩ ⟨⟨j + 1, by omega, by omega, hx', ?_⟩, by simp; omega⟩
        have e2 : zs[j]'(by omega) = ys[j]'(by omega) := by simpa using heq2
        rw [List.take_add_one, List.take_add_one, he, List.getElem?_eq_getElem (by omega), List.getElem?_eq_getElem (by omega), e2]
    · have hjn : j = n := by omega
      subst hjn
      rw [List.take_of_length_le (by omega), List.take_of_length_le (by omega)] at he
      simp [he]
end Go.Proofs.YtfehpaekbbmkcaaGreatDoor
namespace Go.Proofs.YtfehpaekbbmkcaaGreatDoor
open Go Go.Proofs.YtfehpaekbbmkcaaGreatDoor.Sx
theorem open_Signed {w : World} {vs : List Value} {ds : List D0} (h : Reps w vs ds) (hc : ds.map D0.code = [.bool, .ints]) :
    ∃ (a0 : Bool) (a1p : Option Addr) (a1n a1c : Nat) (a1z : List Int), vs = [.bool a0, .slice a1p a1n a1c] /\ ds = [.bool a0, .ints a1z] /\ IntsR w a1p a1n a1c a1z := by
  obtain ⟨b0, us, es, hv, hd, h2, hc2⟩ := h.bool hc
  subst hv; subst hd
  clear h hc
  have h := h2; have hc := hc2; clear h2 hc2
  obtain ⟨b1p, b1n, b1c, b1z, us, es, hv, hd, b1h, h2, hc2⟩ := h.ints hc
  subst hv; subst hd
  clear h hc
  have h := h2; have hc := hc2; clear h2 hc2
  obtain ⟨hv, hd⟩ := h.done hc
  subst hv; subst hd; clear h hc
  exact ⟨_, _, _, _, _, rfl, rfl, b1h⟩
theorem laws_szSigned_c {w : World} {vs : List Value} {ds : List D0} (h : Reps w vs ds) (hc : ds.map D0.code = [.bool, .ints]) (hok : ∀ d ∈ ds, d.ok) {left : Int} (h0 : 0 <= left) (h1 : left <= 1048576) :
    Ret P n_laws_szSigned [.agg ⟨vs⟩, .int .i64 left] w fun v w' => ∃ r : Int, v = .int .i64 r /\ (0 <= r -> r + bulks ds <= left) /\ r <= 1048576 /\ Ext w w' := by
  obtain ⟨a0, us, es, hv, hd, h2, hc2⟩ := h.bool hc
  subst hv; subst hd
  clear h hc
  have h := h2; have hc := hc2; clear h2 hc2
  obtain ⟨a1p, a1n, a1c, a1z, us, es, hv, hd, a1h, h2, hc2⟩ := h.ints hc
  subst hv; subst hd
  clear h hc
  have h := h2; have hc := hc2; clear h2 hc2
  obtain ⟨hv, hd⟩ := h.done hc
  subst hv; subst hd; clear h hc
  simp only [List.mem_cons, List.not_mem_nil, or_false, forall_eq_or_imp, forall_eq, D0.ok] at hok
  have a1l := a1h.1; have a1k := a1h.2.1; have a1m := a1h.2.2.1
  simp only [bulks, D0.bulk, List.map_cons, List.map_nil, List.sum_cons, List.sum_nil]
  refine laws_szSigned_ret ?_
  unfold laws_szSigned
  intro r w1 hn1
  have x := hn1.ext; have b0 := hn1.blk
  refine ⟨_, _, _, b0.load (by kernel_rfl) rfl, ?_⟩
  refine Ret.at (laws_szIntS_c (by omega) (by omega) (by omega)) ?_
  rintro v w2 ⟨k0, hv, hk0, hm0, y⟩
  subst hv
  have x := x.trans y; have b0 := b0.ext y
  refine ⟨_, rfl, ifD (fun hl => ⟨_, rfl, by omega, by omega, x⟩) (fun hl => ?_)⟩
  exact ⟨_, rfl, by omega, by omega, x⟩
theorem laws_toSigned_c {w : World} {vs : List Value} {ds : List D0} (h : Reps w vs ds) (hc : ds.map D0.code = [.bool, .ints]) (hb : bulks ds <= 1048576) :
    Ret P n_laws_toSigned [.agg ⟨vs⟩] w fun v w' => ∃ vs' f, v = .agg ⟨vs'⟩ /\ Owns w' w.heap.size vs' ds f /\ f.Nodup /\ Ext w w' := by
  obtain ⟨a0, us, es, hv, hd, h2, hc2⟩ := h.bool hc
  subst hv; subst hd
  clear h hc
  have h := h2; have hc := hc2; clear h2 hc2
  obtain ⟨a1p, a1n, a1c, a1z, us, es, hv, hd, a1h, h2, hc2⟩ := h.ints hc
  subst hv; subst hd
  clear h hc
  have h := h2; have hc := hc2; clear h2 hc2
  obtain ⟨hv, hd⟩ := h.done hc
  subst hv; subst hd; clear h hc
  simp only [bulks, D0.bulk, List.map_cons, List.map_nil, List.sum_cons, List.sum_nil] at hb
  have a1l := a1h.1
  refine laws_toSigned_ret ?_
  unfold laws_toSigned
  intro r w1 hn1 r1 w2 hn2 r2 w3 hn3
  have x := (hn1.ext.trans hn2.ext).trans hn3.ext
  have b0 := (hn1.blk.ext hn2.ext).ext hn3.ext
  have b1 := hn2.blk.ext hn3.ext
  have b2 := hn3.blk
  have e1 := hn1.r_eq; have e2 := hn2.r_eq; have e3 := hn3.r_eq; have s1 := hn1.size; have s2 := hn2.size; have s3 := hn3.size
  obtain ⟨w4, st, b2', ch, sz⟩ := b2.store (P := P) (t := T_bool) (k := 0) (v := .bool a0) (by kernel_rfl) (by simp) rfl
  refine ⟨_, b0.load (by kernel_rfl) rfl, _, st, ?_⟩
  have x := x.chg ch (by simp; omega); have b0 := b0.chg ch (by simp; omega); have b1 := b1.chg ch (by simp; omega)
  have b2 : Blk w4 r2 _ [.bool a0, .slice none 0 0] := b2'
  clear b2'
  refine ⟨_, _, _, b0.load (by kernel_rfl) rfl, ?_⟩
  refine Ret.at (laws_toIntS_c (a1h.ext x) (by omega)) ?_
  rintro v w5 ⟨q0, hv, o0, y⟩
  subst hv
  refine ⟨_, _, _, rfl, ?_⟩
  have o0 := Owns.ints o0
  have l0 : ∀ k ∈ _, k < w5.heap.size := fun k hk => (o0.lt k hk).2
  have nd0 : ([q0] : List Nat).Nodup := by simp
  have y0 := y.le; have b0 := b0.ext y; have b1 := b1.ext y; have b2 := b2.ext y; have x := x.trans y
  obtain ⟨w6, st, b2', ch, sz⟩ := b2.store (P := P) (t := T_s_int) (k := 1) (v := .slice (some ⟨q0, 0, none⟩) a1n a1n) (by kernel_rfl) (by simp) rfl
  refine ⟨_, st, ?_⟩
  have x := x.chg ch (by simp; omega); have b0 := b0.chg ch (by simp; omega); have b1 := b1.chg ch (by simp; omega)
  have b2 : Blk w6 r2 _ [.bool a0, .slice (some ⟨q0, 0, none⟩) a1n a1n] := b2'
  clear b2'
  have o0 := o0.chg1 ch (by omega)
  refine ⟨_, _, _, _, b2.loadA0 (by kernel_rfl), ?_⟩
  have ow : Owns w6 w.heap.size [.bool a0, .slice (some ⟨q0, 0, none⟩) a1n a1n] [.bool a0, .ints a1z] ([] ++ [q0]) := Owns.append (Owns.bool _ _ a0) (o0.mono (by omega))
  obtain ⟨w7, st, b1', ch, sz⟩ := b1.storeA0 (P := P) (t := T_impl_Signed) (xs := [.bool a0, .slice (some ⟨q0, 0, none⟩) a1n a1n]) (by kernel_rfl) rfl ow.reps.cells1
  refine ⟨_, st, _, _, _, _, b1'.loadA0 (by kernel_rfl), [.bool a0, .slice (some ⟨q0, 0, none⟩) a1n a1n], ([] ++ [q0]), rfl, Owns.append (Owns.bool _ _ a0) ((o0.chg1 ch (by omega)).mono (by omega)), ?_, x.chg ch (by simp; omega)⟩
  try simp only [List.nil_append, List.append_nil]
  exact nd0
theorem laws_eqSigned_c {w : World} {xs ys : List Value} {dx dy : List D0} (h : Reps w xs dx) (k : Reps w ys dy) (hc : dx.map D0.code = [.bool, .ints]) (kc : dy.map D0.code = [.bool, .ints]) :
    Ret P n_laws_eqSigned [.agg ⟨xs⟩, .agg ⟨ys⟩] w fun v w' => v = .bool (decide (dx = dy)) /\ Ext w w' := by
  obtain ⟨a0, us, es, hv, hd, h2, hc2⟩ := h.bool hc
  subst hv; subst hd
  clear h hc
  have h := h2; have hc := hc2; clear h2 hc2
  obtain ⟨a1p, a1n, a1c, a1z, us, es, hv, hd, a1h, h2, hc2⟩ := h.ints hc
  subst hv; subst hd
  clear h hc
  have h := h2; have hc := hc2; clear h2 hc2
  obtain ⟨hv, hd⟩ := h.done hc
  subst hv; subst hd; clear h hc
  obtain ⟨bb0, us, es, hv, hd, k2, kc2⟩ := k.bool kc
  subst hv; subst hd
  clear k kc
  have k := k2; have kc := kc2; clear k2 kc2
  obtain ⟨bb1p, bb1n, bb1c, bb1z, us, es, hv, hd, bb1h, k2, kc2⟩ := k.ints kc
  subst hv; subst hd
  clear k kc
  have k := k2; have kc := kc2; clear k2 kc2
  obtain ⟨hv, hd⟩ := k.done kc
  subst hv; subst hd; clear k kc
  refine laws_eqSigned_ret ?_
  unfold laws_eqSigned
  intro r w1 hn1 r1 w2 hn2
  have x := hn1.ext.trans hn2.ext
  have b0 := hn1.blk.ext hn2.ext
  have b1 := hn2.blk
  refine ⟨_, b0.load (by kernel_rfl) rfl, _, b1.load (by kernel_rfl) rfl, ?_⟩
  refine ifN (fun hne => ⟨dec_no (fun e => ?_), x⟩) (fun heq => ?_)
  · have e2 := congrArg (fun l : List D0 => (l.drop 0).take 1) e
    simp at e2; simp [e2] at hne
  have heq : a0 = bb0 := by simpa using heq
  subst heq
  refine ⟨_, _, _, b0.load (by kernel_rfl) rfl, _, _, _, b1.load (by kernel_rfl) rfl, ?_⟩
  refine Ret.at (laws_eqIntS_c (a1h.ext x) (bb1h.ext x)) ?_
  rintro v w3 ⟨hv, y⟩
  subst hv
  have x := x.trans y; have b0 := b0.ext y; have b1 := b1.ext y
  refine ⟨_, rfl, ifN (fun hne => ⟨dec_no (fun e => ?_), x⟩) (fun heq => ?_)⟩
  · have e2 := congrArg (fun l : List D0 => (l.drop 1).take 1) e
    have hne := of_decide_eq_false hne; simp at e2; exact hne e2
  have heq := of_decide_eq_true heq
  subst heq
  exact ⟨dec_yes rfl, x⟩
theorem open_Rat {w : World} {vs : List Value} {ds : List D0} (h : Reps w vs ds) (hc : ds.map D0.code = [.bool, .ints, .ints]) :
    ∃ (a0 : Bool) (a1p : Option Addr) (a1n a1c : Nat) (a1z : List Int) (a2p : Option Addr) (a2n a2c : Nat) (a2z : List Int), vs = [.bool a0, .slice a1p a1n a1c, .slice a2p a2n a2c] /\ ds = [.bool a0, .ints a1z, .ints a2z] /\ IntsR w a1p a1n a1c a1z /\ IntsR w a2p a2n a2c a2z := by
  obtain ⟨b0, us, es, hv, hd, h2, hc2⟩ := h.bool hc
  subst hv; subst hd
  clear h hc
  have h := h2; have hc := hc2; clear h2 hc2
  obtain ⟨b1p, b1n, b1c, b1z, us, es, hv, hd, b1h, h2, hc2⟩ := h.ints hc
  subst hv; subst hd
  clear h hc
  have h := h2; have hc := hc2; clear h2 hc2
  obtain ⟨b2p, b2n, b2c, b2z, us, es, hv, hd, b2h, h2, hc2⟩ := h.ints hc
  subst hv; subst hd
  clear h hc
  have h := h2; have hc := hc2; clear h2 hc2
  obtain ⟨hv, hd⟩ := h.done hc
  subst hv; subst hd; clear h hc
  exact ⟨_, _, _, _, _, _, _, _, _, rfl, rfl, b1h, b2h⟩
theorem open_Dec {w : World} {vs : List Value} {ds : List D0} (h : Reps w vs ds) (hc : ds.map D0.code = [.bool, .ints, .int]) :
    ∃ (a0 : Bool) (a1p : Option Addr) (a1n a1c : Nat) (a1z : List Int) (a2 : Int), vs = [.bool a0, .slice a1p a1n a1c, .int .i64 a2] /\ ds = [.bool a0, .ints a1z, .int a2] /\ IntsR w a1p a1n a1c a1z := by
  obtain ⟨b0, us, es, hv, hd, h2, hc2⟩ := h.bool hc
  subst hv; subst hd
  clear h hc
  have h := h2; have hc := hc2; clear h2 hc2
  obtain ⟨b1p, b1n, b1c, b1z, us, es, hv, hd, b1h, h2, hc2⟩ := h.ints hc
  subst hv; subst hd
  clear h hc
  have h := h2; have hc := hc2; clear h2 hc2
  obtain ⟨b2, us, es, hv, hd, h2, hc2⟩ := h.int hc
  subst hv; subst hd
  clear h hc
  have h := h2; have hc := hc2; clear h2 hc2
  obtain ⟨hv, hd⟩ := h.done hc
  subst hv; subst hd; clear h hc
  exact ⟨_, _, _, _, _, _, rfl, rfl, b1h⟩
theorem laws_szDec_c {w : World} {vs : List Value} {ds : List D0} (h : Reps w vs ds) (hc : ds.map D0.code = [.bool, .ints, .int]) (hok : ∀ d ∈ ds, d.ok) {left : Int} (h0 : 0 <= left) (h1 : left <= 1048576) :
    Ret P n_laws_szDec [.agg ⟨vs⟩, .int .i64 left] w fun v w' => ∃ r : Int, v = .int .i64 r /\ (0 <= r -> r + bulks ds <= left) /\ r <= 1048576 /\ Ext w w' := by
  obtain ⟨a0, us, es, hv, hd, h2, hc2⟩ := h.bool hc
  subst hv; subst hd
  clear h hc
  have h := h2; have hc := hc2; clear h2 hc2
  obtain ⟨a1p, a1n, a1c, a1z, us, es, hv, hd, a1h, h2, hc2⟩ := h.ints hc
  subst hv; subst hd
  clear h hc
  have h := h2; have hc := hc2; clear h2 hc2
  obtain ⟨a2, us, es, hv, hd, h2, hc2⟩ := h.int hc
  subst hv; subst hd
  clear h hc
  have h := h2; have hc := hc2; clear h2 hc2
  obtain ⟨hv, hd⟩ := h.done hc
  subst hv; subst hd; clear h hc
  simp only [List.mem_cons, List.not_mem_nil, or_false, forall_eq_or_imp, forall_eq, D0.ok] at hok
  have a1l := a1h.1; have a1k := a1h.2.1; have a1m := a1h.2.2.1
  simp only [bulks, D0.bulk, List.map_cons, List.map_nil, List.sum_cons, List.sum_nil]
  refine laws_szDec_ret ?_
  unfold laws_szDec
  intro r w1 hn1
  have x := hn1.ext; have b0 := hn1.blk
  have hr : Reps w [.bool a0, .slice a1p a1n a1c] [.bool a0, .ints a1z] := ⟨rfl, ⟨⟨_, _, _, rfl, a1h⟩, trivial⟩⟩
  refine ⟨_, _, _, _, b0.loadA (xs := [.bool a0, .slice a1p a1n a1c]) (by kernel_rfl) rfl, ?_⟩
  refine Ret.at (laws_szSigned_c (hr.ext x) rfl (by simp only [List.mem_cons, List.not_mem_nil, or_false, forall_eq_or_imp, forall_eq, D0.ok]; simp only [hok, and_self]) (by omega) (by omega)) ?_
  rintro v w2 ⟨k0, hv, hk0, hm0, y⟩
  simp only [bulks, D0.bulk, List.map_cons, List.map_nil, List.sum_cons, List.sum_nil] at hk0
  subst hv
  have x := x.trans y; have b0 := b0.ext y
  refine ⟨_, rfl, ifD (fun hl => ⟨_, rfl, by omega, by omega, x⟩) (fun hl => ?_)⟩
  exact ⟨_, rfl, by omega, by omega, x⟩
theorem laws_toDec_c {w : World} {vs : List Value} {ds : List D0} (h : Reps w vs ds) (hc : ds.map D0.code = [.bool, .ints, .int]) (hb : bulks ds <= 1048576) :
    Ret P n_laws_toDec [.agg ⟨vs⟩] w fun v w' => ∃ vs' f, v = .agg ⟨vs'⟩ /\ Owns w' w.heap.size vs' ds f /\ f.Nodup /\ Ext w w' := by
  obtain ⟨a0, us, es, hv, hd, h2, hc2⟩ := h.bool hc
  subst hv; subst hd
  clear h hc
  have h := h2; have hc := hc2; clear h2 hc2
  obtain ⟨a1p, a1n, a1c, a1z, us, es, hv, hd, a1h, h2, hc2⟩ := h.ints hc
  subst hv; subst hd
  clear h hc
  have h := h2; have hc := hc2; clear h2 hc2
  obtain ⟨a2, us, es, hv, hd, h2, hc2⟩ := h.int hc
  subst hv; subst hd
  clear h hc
  have h := h2; have hc := hc2; clear h2 hc2
  obtain ⟨hv, hd⟩ := h.done hc
  subst hv; subst hd; clear h hc
  simp only [bulks, D0.bulk, List.map_cons, List.map_nil, List.sum_cons, List.sum_nil] at hb
  have a1l := a1h.1
  refine laws_toDec_ret ?_
  unfold laws_toDec
  intro r w1 hn1 r1 w2 hn2 r2 w3 hn3
  have x := (hn1.ext.trans hn2.ext).trans hn3.ext
  have b0 := (hn1.blk.ext hn2.ext).ext hn3.ext
  have b1 := hn2.blk.ext hn3.ext
  have b2 := hn3.blk
  have e1 := hn1.r_eq; have e2 := hn2.r_eq; have e3 := hn3.r_eq; have s1 := hn1.size; have s2 := hn2.size; have s3 := hn3.size
  have hr : Reps w [.bool a0, .slice a1p a1n a1c] [.bool a0, .ints a1z] := ⟨rfl, ⟨⟨_, _, _, rfl, a1h⟩, trivial⟩⟩
  refine ⟨_, _, _, _, b0.loadA (xs := [.bool a0, .slice a1p a1n a1c]) (by kernel_rfl) rfl, ?_⟩
  refine Ret.at (laws_toSigned_c (hr.ext x) rfl (by simp only [bulks, D0.bulk, List.map_cons, List.map_nil, List.sum_cons, List.sum_nil]; omega)) ?_
  rintro v w4 ⟨us0, f0, hv, o0, nd0, y⟩
  subst hv
  have hq := o0.reps; have hqc : ([.bool a0, .ints a1z] : List D0).map D0.code = [.bool, .ints] := rfl
  obtain ⟨q00, us, es, hv, hd, hq2, hqc2⟩ := hq.bool hqc
  subst hv; cases hd; clear hq hqc; have hq := hq2; have hqc := hqc2; clear hq2 hqc2
  obtain ⟨q01p, q01n, q01c, q01z, us, es, hv, hd, q01h, hq2, hqc2⟩ := hq.ints hqc
  subst hv; cases hd; clear hq hqc; have hq := hq2; have hqc := hqc2; clear hq2 hqc2
  obtain ⟨hv, _⟩ := hq.done hqc; subst hv; clear hq hqc
  refine ⟨_, _, _, _, rfl, ?_⟩
  have l0 : ∀ k ∈ _, k < w4.heap.size := fun k hk => (o0.lt k hk).2
  have y0 := y.le; have b0 := b0.ext y; have b1 := b1.ext y; have b2 := b2.ext y; have x := x.trans y
  obtain ⟨w5, st, b2', ch, sz⟩ := b2.storeA (P := P) (t := T_impl_Signed) (k := 0) (xs := [.bool a0, .slice q01p q01n q01c]) (by kernel_rfl) (by simp) o0.reps.cells1
  refine ⟨_, st, ?_⟩
  have x := x.chg ch (by simp; omega); have b0 := b0.chg ch (by simp; omega); have b1 := b1.chg ch (by simp; omega)
  have b2 : Blk w5 r2 _ [.bool a0, .slice q01p q01n q01c, .int .i64 0] := b2'
  clear b2'
  have o0 := o0.chg1 ch (by omega)
  obtain ⟨w6, st, b2', ch, sz⟩ := b2.store (P := P) (t := T_int) (k := 2) (v := .int .i64 a2) (by kernel_rfl) (by simp) rfl
  refine ⟨_, b0.load (by kernel_rfl) rfl, _, st, ?_⟩
  have x := x.chg ch (by simp; omega); have b0 := b0.chg ch (by simp; omega); have b1 := b1.chg ch (by simp; omega)
  have b2 : Blk w6 r2 _ [.bool a0, .slice q01p q01n q01c, .int .i64 a2] := b2'
  clear b2'
  have o0 := o0.chg1 ch (by omega)
  refine ⟨_, _, _, _, _, b2.loadA0 (by kernel_rfl), ?_⟩
  have ow : Owns w6 w.heap.size [.bool a0, .slice q01p q01n q01c, .int .i64 a2] [.bool a0, .ints a1z, .int a2] (f0 ++ []) := Owns.append (o0.mono (by omega)) (Owns.int _ _ a2)
  obtain ⟨w7, st, b1', ch, sz⟩ := b1.storeA0 (P := P) (t := T_impl_Dec) (xs := [.bool a0, .slice q01p q01n q01c, .int .i64 a2]) (by kernel_rfl) rfl ow.reps.cells1
  refine ⟨_, st, _, _, _, _, _, b1'.loadA0 (by kernel_rfl), [.bool a0, .slice q01p q01n q01c, .int .i64 a2], (f0 ++ []), rfl, Owns.append ((o0.chg1 ch (by omega)).mono (by omega)) (Owns.int _ _ a2), ?_, x.chg ch (by simp; omega)⟩
  try simp only [List.nil_append, List.append_nil]
  exact nd0
theorem laws_eqDec_c {w : World} {xs ys : List Value} {dx dy : List D0} (h : Reps w xs dx) (k : Reps w ys dy) (hc : dx.map D0.code = [.bool, .ints, .int]) (kc : dy.map D0.code = [.bool, .ints, .int]) :
    Ret P n_laws_eqDec [.agg ⟨xs⟩, .agg ⟨ys⟩] w fun v w' => v = .bool (decide (dx = dy)) /\ Ext w w' := by
  obtain ⟨a0, us, es, hv, hd, h2, hc2⟩ := h.bool hc
  subst hv; subst hd
  clear h hc
  have h := h2; have hc := hc2; clear h2 hc2
  obtain ⟨a1p, a1n, a1c, a1z, us, es, hv, hd, a1h, h2, hc2⟩ := h.ints hc
  subst hv; subst hd
  clear h hc
  have h := h2; have hc := hc2; clear h2 hc2
  obtain ⟨a2, us, es, hv, hd, h2, hc2⟩ := h.int hc
  subst hv; subst hd
  clear h hc
  have h := h2; have hc := hc2; clear h2 hc2
  obtain ⟨hv, hd⟩ := h.done hc
  subst hv; subst hd; clear h hc
  obtain ⟨bb0, us, es, hv, hd, k2, kc2⟩ := k.bool kc
  subst hv; subst hd
  clear k kc
  have k := k2; have kc := kc2; clear k2 kc2
  obtain ⟨bb1p, bb1n, bb1c, bb1z, us, es, hv, hd, bb1h, k2, kc2⟩ := k.ints kc
  subst hv; subst hd
  clear k kc
  have k := k2; have kc := kc2; clear k2 kc2
  obtain ⟨bb2, us, es, hv, hd, k2, kc2⟩ := k.int kc
  subst hv; subst hd
  clear k kc
  have k := k2; have kc := kc2; clear k2 kc2
  obtain ⟨hv, hd⟩ := k.done kc
  subst hv; subst hd; clear k kc
  refine laws_eqDec_ret ?_
  unfold laws_eqDec
  intro r w1 hn1 r1 w2 hn2
  have x := hn1.ext.trans hn2.ext
  have b0 := hn1.blk.ext hn2.ext
  have b1 := hn2.blk
  have ha : Reps w [.bool a0, .slice a1p a1n a1c] [.bool a0, .ints a1z] := ⟨rfl, ⟨⟨_, _, _, rfl, a1h⟩, trivial⟩⟩
  have hb : Reps w [.bool bb0, .slice bb1p bb1n bb1c] [.bool bb0, .ints bb1z] := ⟨rfl, ⟨⟨_, _, _, rfl, bb1h⟩, trivial⟩⟩
  refine ⟨_, _, _, _, b0.loadA (xs := [.bool a0, .slice a1p a1n a1c]) (by kernel_rfl) rfl, _, _, _, _, b1.loadA (xs := [.bool bb0, .slice bb1p bb1n bb1c]) (by kernel_rfl) rfl, ?_⟩
  refine Ret.at (laws_eqSigned_c (ha.ext x) (hb.ext x) rfl rfl) ?_
  rintro v w3 ⟨hv, y⟩
  subst hv
  have x := x.trans y; have b0 := b0.ext y; have b1 := b1.ext y
  refine ⟨_, rfl, ifN (fun hne => ⟨dec_no (fun e => ?_), x⟩) (fun heq => ?_)⟩
  · have e2 := congrArg (fun l : List D0 => (l.drop 0).take 2) e
    exact of_decide_eq_false hne e2
  have heq := of_decide_eq_true heq
  cases heq
  refine ⟨_, b0.load (by kernel_rfl) rfl, _, b1.load (by kernel_rfl) rfl, ?_⟩
  refine ifD (fun hne => ⟨dec_no (fun e => ?_), x⟩) (fun heq => ?_)
  · have e2 := congrArg (fun l : List D0 => (l.drop 2).take 1) e
    simp at e2; exact hne e2
  have heq : a2 = bb2 := by simpa using heq
  subst heq
  exact ⟨dec_yes rfl, x⟩
theorem open_Money {w : World} {vs : List Value} {ds : List D0} (h : Reps w vs ds) (hc : ds.map D0.code = [.str, .bool, .ints]) :
    ∃ (a0 : ByteArray) (a1 : Bool) (a2p : Option Addr) (a2n a2c : Nat) (a2z : List Int), vs = [.string a0, .bool a1, .slice a2p a2n a2c] /\ ds = [.str a0, .bool a1, .ints a2z] /\ IntsR w a2p a2n a2c a2z := by
  obtain ⟨b0, us, es, hv, hd, h2, hc2⟩ := h.str hc
  subst hv; subst hd
  clear h hc
  have h := h2; have hc := hc2; clear h2 hc2
  obtain ⟨b1, us, es, hv, hd, h2, hc2⟩ := h.bool hc
  subst hv; subst hd
  clear h hc
  have h := h2; have hc := hc2; clear h2 hc2
  obtain ⟨b2p, b2n, b2c, b2z, us, es, hv, hd, b2h, h2, hc2⟩ := h.ints hc
  subst hv; subst hd
  clear h hc
  have h := h2; have hc := hc2; clear h2 hc2
  obtain ⟨hv, hd⟩ := h.done hc
  subst hv; subst hd; clear h hc
  exact ⟨_, _, _, _, _, _, rfl, rfl, b2h⟩
theorem laws_szMoney_c {w : World} {vs : List Value} {ds : List D0} (h : Reps w vs ds) (hc : ds.map D0.code = [.str, .bool, .ints]) (hok : ∀ d ∈ ds, d.ok) {left : Int} (h0 : 0 <= left) (h1 : left <= 1048576) :
    Ret P n_laws_szMoney [.agg ⟨vs⟩, .int .i64 left] w fun v w' => ∃ r : Int, v = .int .i64 r /\ (0 <= r -> r + bulks ds <= left) /\ r <= 1048576 /\ Ext w w' := by
  obtain ⟨a0, us, es, hv, hd, h2, hc2⟩ := h.str hc
  subst hv; subst hd
  clear h hc
  have h := h2; have hc := hc2; clear h2 hc2
  obtain ⟨a1, us, es, hv, hd, h2, hc2⟩ := h.bool hc
  subst hv; subst hd
  clear h hc
  have h := h2; have hc := hc2; clear h2 hc2
  obtain ⟨a2p, a2n, a2c, a2z, us, es, hv, hd, a2h, h2, hc2⟩ := h.ints hc
  subst hv; subst hd
  clear h hc
  have h := h2; have hc := hc2; clear h2 hc2
  obtain ⟨hv, hd⟩ := h.done hc
  subst hv; subst hd; clear h hc
  simp only [List.mem_cons, List.not_mem_nil, or_false, forall_eq_or_imp, forall_eq, D0.ok] at hok
  have a2l := a2h.1; have a2k := a2h.2.1; have a2m := a2h.2.2.1
  simp only [bulks, D0.bulk, List.map_cons, List.map_nil, List.sum_cons, List.sum_nil]
  refine laws_szMoney_ret ?_
  unfold laws_szMoney
  intro r w1 hn1
  have x := hn1.ext; have b0 := hn1.blk
  refine ⟨_, b0.load (by kernel_rfl) rfl, exW ⟨by omega, by omega⟩ (ifD (fun hl => ⟨_, rfl, by omega, by omega, x⟩) (fun hl => ?_))⟩
  have hr : Reps w [.bool a1, .slice a2p a2n a2c] [.bool a1, .ints a2z] := ⟨rfl, ⟨⟨_, _, _, rfl, a2h⟩, trivial⟩⟩
  refine ⟨_, _, _, _, b0.loadA (xs := [.bool a1, .slice a2p a2n a2c]) (by kernel_rfl) rfl, ?_⟩
  refine Ret.at (laws_szSigned_c (hr.ext x) rfl (by simp only [List.mem_cons, List.not_mem_nil, or_false, forall_eq_or_imp, forall_eq, D0.ok]; simp only [hok, and_self]) (by omega) (by omega)) ?_
  rintro v w2 ⟨k0, hv, hk0, hm0, y⟩
  simp only [bulks, D0.bulk, List.map_cons, List.map_nil, List.sum_cons, List.sum_nil] at hk0
  subst hv
  have x := x.trans y; have b0 := b0.ext y
  refine ⟨_, rfl, ifD (fun hl => ⟨_, rfl, by omega, by omega, x⟩) (fun hl => ?_)⟩
  exact ⟨_, rfl, by omega, by omega, x⟩
theorem laws_toMoney_c {w : World} {vs : List Value} {ds : List D0} (h : Reps w vs ds) (hc : ds.map D0.code = [.str, .bool, .ints]) (hb : bulks ds <= 1048576) :
    Ret P n_laws_toMoney [.agg ⟨vs⟩] w fun v w' => ∃ vs' f, v = .agg ⟨vs'⟩ /\ Owns w' w.heap.size vs' ds f /\ f.Nodup /\ Ext w w' := by
  obtain ⟨a0, us, es, hv, hd, h2, hc2⟩ := h.str hc
  subst hv; subst hd
  clear h hc
  have h := h2; have hc := hc2; clear h2 hc2
  obtain ⟨a1, us, es, hv, hd, h2, hc2⟩ := h.bool hc
  subst hv; subst hd
  clear h hc
  have h := h2; have hc := hc2; clear h2 hc2
  obtain ⟨a2p, a2n, a2c, a2z, us, es, hv, hd, a2h, h2, hc2⟩ := h.ints hc
  subst hv; subst hd
  clear h hc
  have h := h2; have hc := hc2; clear h2 hc2
  obtain ⟨hv, hd⟩ := h.done hc
  subst hv; subst hd; clear h hc
  simp only [bulks, D0.bulk, List.map_cons, List.map_nil, List.sum_cons, List.sum_nil] at hb
  have a2l := a2h.1
  refine laws_toMoney_ret ?_
  unfold laws_toMoney
  intro r w1 hn1 r1 w2 hn2 r2 w3 hn3
  have x := (hn1.ext.trans hn2.ext).trans hn3.ext
  have b0 := (hn1.blk.ext hn2.ext).ext hn3.ext
  have b1 := hn2.blk.ext hn3.ext
  have b2 := hn3.blk
  have e1 := hn1.r_eq; have e2 := hn2.r_eq; have e3 := hn3.r_eq; have s1 := hn1.size; have s2 := hn2.size; have s3 := hn3.size
  obtain ⟨w4, st, b2', ch, sz⟩ := b2.store (P := P) (t := T_string) (k := 0) (v := .string a0) (by kernel_rfl) (by simp) rfl
  refine ⟨_, b0.load (by kernel_rfl) rfl, _, st, ?_⟩
  have x := x.chg ch (by simp; omega); have b0 := b0.chg ch (by simp; omega); have b1 := b1.chg ch (by simp; omega)
  have b2 : Blk w4 r2 _ [.string a0, .bool false, .slice none 0 0] := b2'
  clear b2'
  have hr : Reps w [.bool a1, .slice a2p a2n a2c] [.bool a1, .ints a2z] := ⟨rfl, ⟨⟨_, _, _, rfl, a2h⟩, trivial⟩⟩
  refine ⟨_, _, _, _, b0.loadA (xs := [.bool a1, .slice a2p a2n a2c]) (by kernel_rfl) rfl, ?_⟩
  refine Ret.at (laws_toSigned_c (hr.ext x) rfl (by simp only [bulks, D0.bulk, List.map_cons, List.map_nil, List.sum_cons, List.sum_nil]; omega)) ?_
  rintro v w5 ⟨us0, f0, hv, o0, nd0, y⟩
  subst hv
  have hq := o0.reps; have hqc : ([.bool a1, .ints a2z] : List D0).map D0.code = [.bool, .ints] := rfl
  obtain ⟨q00, us, es, hv, hd, hq2, hqc2⟩ := hq.bool hqc
  subst hv; cases hd; clear hq hqc; have hq := hq2; have hqc := hqc2; clear hq2 hqc2
  obtain ⟨q01p, q01n, q01c, q01z, us, es, hv, hd, q01h, hq2, hqc2⟩ := hq.ints hqc
  subst hv; cases hd; clear hq hqc; have hq := hq2; have hqc := hqc2; clear hq2 hqc2
  obtain ⟨hv, _⟩ := hq.done hqc; subst hv; clear hq hqc
  refine ⟨_, _, _, _, rfl, ?_⟩
  have l0 : ∀ k ∈ _, k < w5.heap.size := fun k hk => (o0.lt k hk).2
  have y0 := y.le; have b0 := b0.ext y; have b1 := b1.ext y; have b2 := b2.ext y; have x := x.trans y
  obtain ⟨w6, st, b2', ch, sz⟩ := b2.storeA (P := P) (t := T_impl_Signed) (k := 1) (xs := [.bool a1, .slice q01p q01n q01c]) (by kernel_rfl) (by simp) o0.reps.cells1
  refine ⟨_, st, ?_⟩
  have x := x.chg ch (by simp; omega); have b0 := b0.chg ch (by simp; omega); have b1 := b1.chg ch (by simp; omega)
  have b2 : Blk w6 r2 _ [.string a0, .bool a1, .slice q01p q01n q01c] := b2'
  clear b2'
  have o0 := o0.chg1 ch (by omega)
  refine ⟨_, _, _, _, _, b2.loadA0 (by kernel_rfl), ?_⟩
  have ow : Owns w6 w.heap.size [.string a0, .bool a1, .slice q01p q01n q01c] [.str a0, .bool a1, .ints a2z] ([] ++ f0) := Owns.append (Owns.str _ _ a0) (o0.mono (by omega))
  obtain ⟨w7, st, b1', ch, sz⟩ := b1.storeA0 (P := P) (t := T_impl_Money) (xs := [.string a0, .bool a1, .slice q01p q01n q01c]) (by kernel_rfl) rfl ow.reps.cells1
  refine ⟨_, st, _, _, _, _, _, b1'.loadA0 (by kernel_rfl), [.string a0, .bool a1, .slice q01p q01n q01c], ([] ++ f0), rfl, Owns.append (Owns.str _ _ a0) ((o0.chg1 ch (by omega)).mono (by omega)), ?_, x.chg ch (by simp; omega)⟩
  try simp only [List.nil_append, List.append_nil]
  exact nd0
theorem laws_eqMoney_c {w : World} {xs ys : List Value} {dx dy : List D0} (h : Reps w xs dx) (k : Reps w ys dy) (hc : dx.map D0.code = [.str, .bool, .ints]) (kc : dy.map D0.code = [.str, .bool, .ints]) :
    Ret P n_laws_eqMoney [.agg ⟨xs⟩, .agg ⟨ys⟩] w fun v w' => v = .bool (decide (dx = dy)) /\ Ext w w' := by
  obtain ⟨a0, us, es, hv, hd, h2, hc2⟩ := h.str hc
  subst hv; subst hd
  clear h hc
  have h := h2; have hc := hc2; clear h2 hc2
  obtain ⟨a1, us, es, hv, hd, h2, hc2⟩ := h.bool hc
  subst hv; subst hd
  clear h hc
  have h := h2; have hc := hc2; clear h2 hc2
  obtain ⟨a2p, a2n, a2c, a2z, us, es, hv, hd, a2h, h2, hc2⟩ := h.ints hc
  subst hv; subst hd
  clear h hc
  have h := h2; have hc := hc2; clear h2 hc2
  obtain ⟨hv, hd⟩ := h.done hc
  subst hv; subst hd; clear h hc
  obtain ⟨bb0, us, es, hv, hd, k2, kc2⟩ := k.str kc
  subst hv; subst hd
  clear k kc
  have k := k2; have kc := kc2; clear k2 kc2
  obtain ⟨bb1, us, es, hv, hd, k2, kc2⟩ := k.bool kc
  subst hv; subst hd
  clear k kc
  have k := k2; have kc := kc2; clear k2 kc2
  obtain ⟨bb2p, bb2n, bb2c, bb2z, us, es, hv, hd, bb2h, k2, kc2⟩ := k.ints kc
  subst hv; subst hd
  clear k kc
  have k := k2; have kc := kc2; clear k2 kc2
  obtain ⟨hv, hd⟩ := k.done kc
  subst hv; subst hd; clear k kc
  refine laws_eqMoney_ret ?_
  unfold laws_eqMoney
  intro r w1 hn1 r1 w2 hn2
  have x := hn1.ext.trans hn2.ext
  have b0 := hn1.blk.ext hn2.ext
  have b1 := hn2.blk
  refine ⟨_, b0.load (by kernel_rfl) rfl, _, b1.load (by kernel_rfl) rfl, ?_⟩
  refine ifD (fun hne => ⟨dec_no (fun e => ?_), x⟩) (fun heq => ?_)
  · have e2 := congrArg (fun l : List D0 => (l.drop 0).take 1) e
    simp at e2; exact hne e2
  have heq : a0 = bb0 := by simpa using heq
  subst heq
  have ha : Reps w [.bool a1, .slice a2p a2n a2c] [.bool a1, .ints a2z] := ⟨rfl, ⟨⟨_, _, _, rfl, a2h⟩, trivial⟩⟩
  have hb : Reps w [.bool bb1, .slice bb2p bb2n bb2c] [.bool bb1, .ints bb2z] := ⟨rfl, ⟨⟨_, _, _, rfl, bb2h⟩, trivial⟩⟩
  refine ⟨_, _, _, _, b0.loadA (xs := [.bool a1, .slice a2p a2n a2c]) (by kernel_rfl) rfl, _, _, _, _, b1.loadA (xs := [.bool bb1, .slice bb2p bb2n bb2c]) (by kernel_rfl) rfl, ?_⟩
  refine Ret.at (laws_eqSigned_c (ha.ext x) (hb.ext x) rfl rfl) ?_
  rintro v w3 ⟨hv, y⟩
  subst hv
  have x := x.trans y; have b0 := b0.ext y; have b1 := b1.ext y
  refine ⟨_, rfl, ifN (fun hne => ⟨dec_no (fun e => ?_), x⟩) (fun heq => ?_)⟩
  · have e2 := congrArg (fun l : List D0 => (l.drop 1).take 2) e
    exact of_decide_eq_false hne e2
  have heq := of_decide_eq_true heq
  cases heq
  exact ⟨dec_yes rfl, x⟩
theorem open_Row {w : World} {vs : List Value} {ds : List D0} (h : Reps w vs ds) (hc : ds.map D0.code = [.str, .bool, .ints, .str, .bool, .ints, .str, .bool, .ints]) :
    ∃ (a0 : ByteArray) (a1 : Bool) (a2p : Option Addr) (a2n a2c : Nat) (a2z : List Int) (a3 : ByteArray) (a4 : Bool) (a5p : Option Addr) (a5n a5c : Nat) (a5z : List Int) (a6 : ByteArray) (a7 : Bool) (a8p : Option Addr) (a8n a8c : Nat) (a8z : List Int), vs = [.string a0, .bool a1, .slice a2p a2n a2c, .string a3, .bool a4, .slice a5p a5n a5c, .string a6, .bool a7, .slice a8p a8n a8c] /\ ds = [.str a0, .bool a1, .ints a2z, .str a3, .bool a4, .ints a5z, .str a6, .bool a7, .ints a8z] /\ IntsR w a2p a2n a2c a2z /\ IntsR w a5p a5n a5c a5z /\ IntsR w a8p a8n a8c a8z := by
  obtain ⟨b0, us, es, hv, hd, h2, hc2⟩ := h.str hc
  subst hv; subst hd
  clear h hc
  have h := h2; have hc := hc2; clear h2 hc2
  obtain ⟨b1, us, es, hv, hd, h2, hc2⟩ := h.bool hc
  subst hv; subst hd
  clear h hc
  have h := h2; have hc := hc2; clear h2 hc2
  obtain ⟨b2p, b2n, b2c, b2z, us, es, hv, hd, b2h, h2, hc2⟩ := h.ints hc
  subst hv; subst hd
  clear h hc
  have h := h2; have hc := hc2; clear h2 hc2
  obtain ⟨b3, us, es, hv, hd, h2, hc2⟩ := h.str hc
  subst hv; subst hd
  clear h hc
  have h := h2; have hc := hc2; clear h2 hc2
  obtain ⟨b4, us, es, hv, hd, h2, hc2⟩ := h.bool hc
  subst hv; subst hd
  clear h hc
  have h := h2; have hc := hc2; clear h2 hc2
  obtain ⟨b5p, b5n, b5c, b5z, us, es, hv, hd, b5h, h2, hc2⟩ := h.ints hc
  subst hv; subst hd
  clear h hc
  have h := h2; have hc := hc2; clear h2 hc2
  obtain ⟨b6, us, es, hv, hd, h2, hc2⟩ := h.str hc
  subst hv; subst hd
  clear h hc
  have h := h2; have hc := hc2; clear h2 hc2
  obtain ⟨b7, us, es, hv, hd, h2, hc2⟩ := h.bool hc
  subst hv; subst hd
  clear h hc
  have h := h2; have hc := hc2; clear h2 hc2
  obtain ⟨b8p, b8n, b8c, b8z, us, es, hv, hd, b8h, h2, hc2⟩ := h.ints hc
  subst hv; subst hd
  clear h hc
  have h := h2; have hc := hc2; clear h2 hc2
  obtain ⟨hv, hd⟩ := h.done hc
  subst hv; subst hd; clear h hc
  exact ⟨_, _, _, _, _, _, _, _, _, _, _, _, _, _, _, _, _, _, rfl, rfl, b2h, b5h, b8h⟩
end Go.Proofs.YtfehpaekbbmkcaaGreatDoor
