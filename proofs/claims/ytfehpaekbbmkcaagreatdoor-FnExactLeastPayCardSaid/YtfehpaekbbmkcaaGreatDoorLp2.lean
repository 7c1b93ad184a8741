/-
  Parts of the proof of leastPay_holds: G3, G4, G5, G6, G7, G8.
  Conditions: none.
-/
import Derived.Test.YtfehpaekbbmkcaaGreatDoorLp1
set_option linter.unusedVariables false

namespace Go.Proofs.YtfehpaekbbmkcaaGreatDoor
variable {w : World} {R : Value -> World -> Prop}
open Go Go.Proofs.YtfehpaekbbmkcaaGreatDoor.Sx
set_option maxRecDepth 100000
def spec_LeastPay_j0 (n mode : Int) (r a0 a1 : Nat) (W : World) (R : Value -> World -> Prop) : Prop :=
 ∀ a2 a3, New W (.cells ⟨[.bool false, .slice none 0 0]⟩ 31 (0, 0)) a2 a3 ->
 ∃ wv_6, Stores P 31 ⟨a2, 0, none⟩ (.agg #[.bool false, .slice none 0 0]) a3 wv_6 /\
 ∃ a4 a5 a6 a7, (∀ wv_7, Ext wv_6.drew wv_7 -> Loads P 31 ((⟨r, 0, none⟩ : Addr).add 1) (.agg #[.bool a4, .slice a5 a6 a7]) wv_7) /\ ∀ (ss : List (Option Nat)) (a8 : World), Fl [.cells ⟨[.bool false, .slice none 0 0]⟩ 31 (0, 0)] [none] wv_6.drew ss a8 ->
 Calls P 128 ⟨[.int .i64 3]⟩ a8 fun a9 aa =>
 ∃ ab ac ae af, a9 = .returned (.agg #[.bool ab, .slice ac ae af]) /\
 Ext a8 aa /\ ∀ (ss_1 : List (Option Nat)) (ag : World), Fl [.cells ⟨[.bool false, .slice none 0 0]⟩ 31 (0, 0)] ss aa ss_1 ag ->
 Calls P 127 ⟨[.agg #[.bool a4, .slice a5 a6 a7], .agg #[.bool ab, .slice ac ae af]]⟩ ag fun ah ai =>
 ∃ aj ak al am, ah = .returned (.agg #[.bool aj, .slice ak al am]) /\
 ∀ (ss_2 : List (Option Nat)) (an : World) (ao : Nat), Fl [.cells ⟨[.bool false, .slice none 0 0]⟩ 31 (0, 0)] ss_1 ai ss_2 an -> ss_2[0]? = some (some ao) ->
 ∃ wv_13, Stores P 31 ⟨ao, 0, none⟩ (.agg #[.bool aj, .slice ak al am]) an wv_13 /\
 ∃ (ap : World -> Prop) (mu : World -> Nat), ap wv_13 /\
 ∀ (aq : Fr) (ar : World), ap ar ->
 ∃ au av aw ax, Loads P 31 ⟨a2, 0, none⟩ (.agg #[.bool au, .slice av aw ax]) ar /\ ∃ ay az b0 b1, Loads P 31 ⟨ao, 0, none⟩ (.agg #[.bool ay, .slice az b0 b1]) ar /\ Calls P 129 ⟨[.agg #[.bool au, .slice av aw ax], .agg #[.bool ay, .slice az b0 b1]]⟩ ar fun b2 b3 =>
 ∃ b4, b2 = .returned (.int .i64 b4) /\
 ((decide ((b4 : Int) < 0)) = true ->
 ∃ b5 b6 b7 b8, Loads P 31 ⟨a2, 0, none⟩ (.agg #[.bool b5, .slice b6 b7 b8]) b3 /\ ∃ b9 ba bb bc, Loads P 31 ⟨ao, 0, none⟩ (.agg #[.bool b9, .slice ba bb bc]) b3 /\ Calls P 112 ⟨[.agg #[.bool b5, .slice b6 b7 b8], .agg #[.bool b9, .slice ba bb bc]]⟩ b3 fun bd be =>
 ∃ bf bg bh bi, bd = .returned (.agg #[.bool bf, .slice bg bh bi]) /\
 ∀ bj bk, New be (.cells ⟨[.int .i64 2]⟩ 3 (0, 0)) bj bk ->
 Calls P 130 ⟨[.slice bg bh bi, (.slice (some ⟨bj, 0, none⟩) 1 1)]⟩ bk fun bl bm =>
 ∃ bn bo bp bq br bs, bl = .returned (.tuple #[.slice bn bo bp, .slice bq br bs]) /\
 ∀ bt bu, New bm (.cells ⟨[.bool false, .slice none 0 0]⟩ 31 (0, 0)) bt bu ->
 ∃ wv_20, Stores P 31 ⟨bt, 0, none⟩ (.agg #[.bool false, .slice bn bo bp]) bu wv_20 /\
 ∃ bv bw bx bz c0, Loads P 33 ⟨r, 0, none⟩ (.agg #[.string bv, .bool bw, .slice bx bz c0]) wv_20 /\ ∃ c1 c2 c3 c4 c5, Loads P 63 ⟨a0, 0, none⟩ (.agg #[.bool c1, .slice c2 c3 c4, .int .i64 c5]) wv_20 /\ ∃ c6 c7 c8 c9, Loads P 31 ⟨bt, 0, none⟩ (.agg #[.bool c6, .slice c7 c8 c9]) wv_20 /\ Calls P 131 ⟨[.agg #[.string bv, .bool bw, .slice bx bz c0], .agg #[.bool c1, .slice c2 c3 c4, .int .i64 c5], .agg #[.bool c6, .slice c7 c8 c9], .int .i64 n, .int .i64 mode]⟩ wv_20 fun ca cb =>
 ∃ cc, ca = .returned (.bool cc) /\
 (cc = true ->
 ∃ cd ce cf cg, Loads P 31 ⟨bt, 0, none⟩ (.agg #[.bool cd, .slice ce cf cg]) cb /\ ∃ wv_22, Stores P 31 ⟨ao, 0, none⟩ (.agg #[.bool cd, .slice ce cf cg]) cb wv_22 /\
 ap wv_22 /\ mu wv_22 < mu ar) /\
 (cc = false ->
 ∃ ch ci cj ck, (∀ wv_23, Ext cb.drew wv_23 -> Loads P 31 ⟨bt, 0, none⟩ (.agg #[.bool ch, .slice ci cj ck]) wv_23) /\ Calls P 128 ⟨[.int .i64 1]⟩ cb.drew fun cl cm =>
 ∃ cn co cp cq, cl = .returned (.agg #[.bool cn, .slice co cp cq]) /\
 Ext cb.drew cm /\ Calls P 112 ⟨[.agg #[.bool ch, .slice ci cj ck], .agg #[.bool cn, .slice co cp cq]]⟩ cm fun cr cs =>
 ∃ ct cu cv cw, cr = .returned (.agg #[.bool ct, .slice cu cv cw]) /\
 ∃ wv_26, Stores P 31 ⟨a2, 0, none⟩ (.agg #[.bool ct, .slice cu cv cw]) cs wv_26 /\
 ap wv_26 /\ mu wv_26 < mu ar)) /\
 ((decide ((b4 : Int) < 0)) = false ->
 ∃ cx, (∀ wv_27, Ext b3.drew wv_27 -> Loads P 9 ((⟨r, 0, none⟩ : Addr).add 0) (.string cx) wv_27) /\ ∃ cy cz d0, (∀ wv_28, Ext b3.drew wv_28 -> Loads P 22 ((⟨a2, 0, none⟩ : Addr).add 1) (.slice cy cz d0) wv_28) /\ Calls P 113 ⟨[.bool false, .slice cy cz d0]⟩ b3.drew fun d1 d2 =>
 ∃ d3 d4 d5 d6, d1 = .returned (.agg #[.bool d3, .slice d4 d5 d6]) /\
 Ext b3.drew d2 /\ Calls P 132 ⟨[.string cx, .agg #[.bool d3, .slice d4 d5 d6]]⟩ d2 fun d7 d8 =>
 ∃ d9 da db dc dd de, d7 = .returned (.tuple #[.agg #[.string d9, .bool da, .slice db dc dd], .bool de]) /\
 ∃ wv_31, Stores P 33 ⟨a1, 0, none⟩ (.agg #[.string d9, .bool da, .slice db dc dd]) d8 wv_31 /\
 ∃ r0_2 r1_1 df dg dh, Loads P 33 ⟨a1, 0, none⟩ (.agg #[.string r0_2, .bool r1_1, .slice df dg dh]) wv_31 /\ R (.tuple #[.agg #[.string r0_2, .bool r1_1, .slice df dg dh], .bool de]) wv_31)
abbrev spec_LeastPay_z0 (q : Nat) (x : World) (R : Value -> World -> Prop) : Prop :=
 ∃ y, Stores P 33 ⟨q, 0, none⟩ (.agg #[.string ByteArray.empty, .bool false, .slice none 0 0]) x y /\ ∃ r0_1 r1 ai aj ak, Loads P 33 ⟨q, 0, none⟩ (.agg #[.string r0_1, .bool r1, .slice ai aj ak]) y /\ R (.tuple #[.agg #[.string r0_1, .bool r1, .slice ai aj ak], .bool false]) y
def spec_LeastPay (left0 : ByteArray) (left1 : Bool) (a0 : Option Addr) (a1 a2 : Nat) (r0 : Bool) (a3 : Option Addr) (a4 a5 : Nat) (r2 n mode : Int) (w : World) (R : Value -> World -> Prop) : Prop :=
 ∀ r wv, New w (.cells ⟨[.string left0, .bool left1, .slice a0 a1 a2]⟩ 33 (0, 0)) r wv ->
 ∀ a6 a7, New wv (.cells ⟨[.bool r0, .slice a3 a4 a5, .int .i64 r2]⟩ 63 (0, 0)) a6 a7 ->
 ∀ a8 a9, New a7 (.cells ⟨[.string ByteArray.empty, .bool false, .slice none 0 0]⟩ 33 (0, 0)) a8 a9 ->
 ∃ aa ab ac ae af, Loads P 33 ⟨r, 0, none⟩ (.agg #[.string aa, .bool ab, .slice ac ae af]) a9 /\ Calls P 67 ⟨[.agg #[.string aa, .bool ab, .slice ac ae af]]⟩ a9 fun e ag =>
 ∃ ah, e = .returned (.bool ah) /\
 ((!ah) = true ->
 (true = true ->
 (true = true ->
 (true = true ->
 (true = true ->
 (true = true ->
 spec_LeastPay_z0 a8 ag R) /\
 (true = false ->
 spec_LeastPay_j0 n mode r a6 a8 ag R)) /\
 (true = false ->
 Calls P 126 ⟨[.int .i64 mode]⟩ ag fun al am =>
 ∃ an, al = .returned (.bool an) /\
 ((!an) = true ->
 spec_LeastPay_z0 a8 am R) /\
 ((!an) = false ->
 spec_LeastPay_j0 n mode r a6 a8 am R))) /\
 (true = false ->
 Calls P 125 ⟨[.int .i64 n, .int .i64 1, .int .i64 24]⟩ ag fun ar au =>
 ∃ av, ar = .returned (.bool av) /\
 ((!av) = true ->
 (true = true ->
 spec_LeastPay_z0 a8 au R) /\
 (true = false ->
 spec_LeastPay_j0 n mode r a6 a8 au R)) /\
 ((!av) = false ->
 Calls P 126 ⟨[.int .i64 mode]⟩ au fun az b0 =>
 ∃ b1, az = .returned (.bool b1) /\
 ((!b1) = true ->
 spec_LeastPay_z0 a8 b0 R) /\
 ((!b1) = false ->
 spec_LeastPay_j0 n mode r a6 a8 b0 R)))) /\
 (true = false ->
 ∃ b5 b6 b7 b8 b9, Loads P 63 ⟨a6, 0, none⟩ (.agg #[.bool b5, .slice b6 b7 b8, .int .i64 b9]) ag /\ Calls P 110 ⟨[.agg #[.bool b5, .slice b6 b7 b8, .int .i64 b9]]⟩ ag fun ba bb =>
 ∃ bc, ba = .returned (.bool bc) /\
 ((!bc) = true ->
 (true = true ->
 (true = true ->
 spec_LeastPay_z0 a8 bb R) /\
 (true = false ->
 spec_LeastPay_j0 n mode r a6 a8 bb R)) /\
 (true = false ->
 Calls P 126 ⟨[.int .i64 mode]⟩ bb fun bg bh =>
 ∃ bi, bg = .returned (.bool bi) /\
 ((!bi) = true ->
 spec_LeastPay_z0 a8 bh R) /\
 ((!bi) = false ->
 spec_LeastPay_j0 n mode r a6 a8 bh R))) /\
 ((!bc) = false ->
 Calls P 125 ⟨[.int .i64 n, .int .i64 1, .int .i64 24]⟩ bb fun bm bn =>
 ∃ bo, bm = .returned (.bool bo) /\
 ((!bo) = true ->
 (true = true ->
 spec_LeastPay_z0 a8 bn R) /\
 (true = false ->
 spec_LeastPay_j0 n mode r a6 a8 bn R)) /\
 ((!bo) = false ->
 Calls P 126 ⟨[.int .i64 mode]⟩ bn fun bs bt =>
 ∃ bu, bs = .returned (.bool bu) /\
 ((!bu) = true ->
 spec_LeastPay_z0 a8 bt R) /\
 ((!bu) = false ->
 spec_LeastPay_j0 n mode r a6 a8 bt R))))) /\
 (true = false ->
 ∃ bz c0 c1, Loads P 22 (((⟨r, 0, none⟩ : Addr).add 1).add 1) (.slice bz c0 c1) ag /\ ((decide ((2 : Int) < ((c0 : Nat) : Int))) = true ->
 (true = true ->
 (true = true ->
 (true = true ->
 spec_LeastPay_z0 a8 ag R) /\
 (true = false ->
 spec_LeastPay_j0 n mode r a6 a8 ag R)) /\
 (true = false ->
 Calls P 126 ⟨[.int .i64 mode]⟩ ag fun c5 c6 =>
 ∃ c7, c5 = .returned (.bool c7) /\
 ((!c7) = true ->
 spec_LeastPay_z0 a8 c6 R) /\
 ((!c7) = false ->
 spec_LeastPay_j0 n mode r a6 a8 c6 R))) /\
 (true = false ->
 Calls P 125 ⟨[.int .i64 n, .int .i64 1, .int .i64 24]⟩ ag fun cb cc =>
 ∃ cd, cb = .returned (.bool cd) /\
 ((!cd) = true ->
 (true = true ->
 spec_LeastPay_z0 a8 cc R) /\
 (true = false ->
 spec_LeastPay_j0 n mode r a6 a8 cc R)) /\
 ((!cd) = false ->
 Calls P 126 ⟨[.int .i64 mode]⟩ cc fun ch ci =>
 ∃ cj, ch = .returned (.bool cj) /\
 ((!cj) = true ->
 spec_LeastPay_z0 a8 ci R) /\
 ((!cj) = false ->
 spec_LeastPay_j0 n mode r a6 a8 ci R)))) /\
 ((decide ((2 : Int) < ((c0 : Nat) : Int))) = false ->
 ∃ cn co cp cq cr, Loads P 63 ⟨a6, 0, none⟩ (.agg #[.bool cn, .slice co cp cq, .int .i64 cr]) ag /\ Calls P 110 ⟨[.agg #[.bool cn, .slice co cp cq, .int .i64 cr]]⟩ ag fun cs ct =>
 ∃ cu, cs = .returned (.bool cu) /\
 ((!cu) = true ->
 (true = true ->
 (true = true ->
 spec_LeastPay_z0 a8 ct R) /\
 (true = false ->
 spec_LeastPay_j0 n mode r a6 a8 ct R)) /\
 (true = false ->
 Calls P 126 ⟨[.int .i64 mode]⟩ ct fun cy cz =>
 ∃ d0, cy = .returned (.bool d0) /\
 ((!d0) = true ->
 spec_LeastPay_z0 a8 cz R) /\
 ((!d0) = false ->
 spec_LeastPay_j0 n mode r a6 a8 cz R))) /\
 ((!cu) = false ->
 Calls P 125 ⟨[.int .i64 n, .int .i64 1, .int .i64 24]⟩ ct fun d4 d5 =>
 ∃ d6, d4 = .returned (.bool d6) /\
 ((!d6) = true ->
 (true = true ->
 spec_LeastPay_z0 a8 d5 R) /\
 (true = false ->
 spec_LeastPay_j0 n mode r a6 a8 d5 R)) /\
 ((!d6) = false ->
 Calls P 126 ⟨[.int .i64 mode]⟩ d5 fun da db =>
 ∃ dc, da = .returned (.bool dc) /\
 ((!dc) = true ->
 spec_LeastPay_z0 a8 db R) /\
 ((!dc) = false ->
 spec_LeastPay_j0 n mode r a6 a8 db R)))))) /\
 ((!ah) = false ->
 ∃ dg, Loads P 4 (((⟨r, 0, none⟩ : Addr).add 1).add 0) (.bool dg) ag /\ (dg = true ->
 (true = true ->
 (true = true ->
 (true = true ->
 (true = true ->
 spec_LeastPay_z0 a8 ag R) /\
 (true = false ->
 spec_LeastPay_j0 n mode r a6 a8 ag R)) /\
 (true = false ->
 Calls P 126 ⟨[.int .i64 mode]⟩ ag fun dk dl =>
 ∃ dm, dk = .returned (.bool dm) /\
 ((!dm) = true ->
 spec_LeastPay_z0 a8 dl R) /\
 ((!dm) = false ->
 spec_LeastPay_j0 n mode r a6 a8 dl R))) /\
 (true = false ->
 Calls P 125 ⟨[.int .i64 n, .int .i64 1, .int .i64 24]⟩ ag fun dr ds =>
 ∃ dt, dr = .returned (.bool dt) /\
 ((!dt) = true ->
 (true = true ->
 spec_LeastPay_z0 a8 ds R) /\
 (true = false ->
 spec_LeastPay_j0 n mode r a6 a8 ds R)) /\
 ((!dt) = false ->
 Calls P 126 ⟨[.int .i64 mode]⟩ ds fun dx dy =>
 ∃ dz, dx = .returned (.bool dz) /\
 ((!dz) = true ->
 spec_LeastPay_z0 a8 dy R) /\
 ((!dz) = false ->
 spec_LeastPay_j0 n mode r a6 a8 dy R)))) /\
 (true = false ->
 ∃ e3 e4 e5 e6 e7, Loads P 63 ⟨a6, 0, none⟩ (.agg #[.bool e3, .slice e4 e5 e6, .int .i64 e7]) ag /\ Calls P 110 ⟨[.agg #[.bool e3, .slice e4 e5 e6, .int .i64 e7]]⟩ ag fun e8 e9 =>
 ∃ ea, e8 = .returned (.bool ea) /\
 ((!ea) = true ->
 (true = true ->
 (true = true ->
 spec_LeastPay_z0 a8 e9 R) /\
 (true = false ->
 spec_LeastPay_j0 n mode r a6 a8 e9 R)) /\
 (true = false ->
 Calls P 126 ⟨[.int .i64 mode]⟩ e9 fun ee ef =>
 ∃ eg, ee = .returned (.bool eg) /\
 ((!eg) = true ->
 spec_LeastPay_z0 a8 ef R) /\
 ((!eg) = false ->
 spec_LeastPay_j0 n mode r a6 a8 ef R))) /\
 ((!ea) = false ->
 Calls P 125 ⟨[.int .i64 n, .int .i64 1, .int .i64 24]⟩ e9 fun ek el =>
 ∃ em, ek = .returned (.bool em) /\
 ((!em) = true ->
 (true = true ->
 spec_LeastPay_z0 a8 el R) /\
 (true = false ->
 spec_LeastPay_j0 n mode r a6 a8 el R)) /\
 ((!em) = false ->
 Calls P 126 ⟨[.int .i64 mode]⟩ el fun eq er =>
 ∃ es, eq = .returned (.bool es) /\
 ((!es) = true ->
 spec_LeastPay_z0 a8 er R) /\
 ((!es) = false ->
 spec_LeastPay_j0 n mode r a6 a8 er R))))) /\
 (dg = false ->
 ∃ ew ex ey, Loads P 22 (((⟨r, 0, none⟩ : Addr).add 1).add 1) (.slice ew ex ey) ag /\ ((decide ((2 : Int) < ((ex : Nat) : Int))) = true ->
 (true = true ->
 (true = true ->
 (true = true ->
 spec_LeastPay_z0 a8 ag R) /\
 (true = false ->
 spec_LeastPay_j0 n mode r a6 a8 ag R)) /\
 (true = false ->
 Calls P 126 ⟨[.int .i64 mode]⟩ ag fun f2 f3 =>
 ∃ f4, f2 = .returned (.bool f4) /\
 ((!f4) = true ->
 spec_LeastPay_z0 a8 f3 R) /\
 ((!f4) = false ->
 spec_LeastPay_j0 n mode r a6 a8 f3 R))) /\
 (true = false ->
 Calls P 125 ⟨[.int .i64 n, .int .i64 1, .int .i64 24]⟩ ag fun f8 f9 =>
 ∃ fa, f8 = .returned (.bool fa) /\
 ((!fa) = true ->
 (true = true ->
 spec_LeastPay_z0 a8 f9 R) /\
 (true = false ->
 spec_LeastPay_j0 n mode r a6 a8 f9 R)) /\
 ((!fa) = false ->
 Calls P 126 ⟨[.int .i64 mode]⟩ f9 fun fe ff =>
 ∃ fg, fe = .returned (.bool fg) /\
 ((!fg) = true ->
 spec_LeastPay_z0 a8 ff R) /\
 ((!fg) = false ->
 spec_LeastPay_j0 n mode r a6 a8 ff R)))) /\
 ((decide ((2 : Int) < ((ex : Nat) : Int))) = false ->
 ∃ fk fl fm fn fo, Loads P 63 ⟨a6, 0, none⟩ (.agg #[.bool fk, .slice fl fm fn, .int .i64 fo]) ag /\ Calls P 110 ⟨[.agg #[.bool fk, .slice fl fm fn, .int .i64 fo]]⟩ ag fun fp fq =>
 ∃ fr, fp = .returned (.bool fr) /\
 ((!fr) = true ->
 (true = true ->
 (true = true ->
 spec_LeastPay_z0 a8 fq R) /\
 (true = false ->
 spec_LeastPay_j0 n mode r a6 a8 fq R)) /\
 (true = false ->
 Calls P 126 ⟨[.int .i64 mode]⟩ fq fun fv fw =>
 ∃ fx, fv = .returned (.bool fx) /\
 ((!fx) = true ->
 spec_LeastPay_z0 a8 fw R) /\
 ((!fx) = false ->
 spec_LeastPay_j0 n mode r a6 a8 fw R))) /\
 ((!fr) = false ->
 Calls P 125 ⟨[.int .i64 n, .int .i64 1, .int .i64 24]⟩ fq fun g1 g2 =>
 ∃ g3, g1 = .returned (.bool g3) /\
 ((!g3) = true ->
 (true = true ->
 spec_LeastPay_z0 a8 g2 R) /\
 (true = false ->
 spec_LeastPay_j0 n mode r a6 a8 g2 R)) /\
 ((!g3) = false ->
 Calls P 126 ⟨[.int .i64 mode]⟩ g2 fun g7 g8 =>
 ∃ g9, g7 = .returned (.bool g9) /\
 ((!g9) = true ->
 spec_LeastPay_z0 a8 g8 R) /\
 ((!g9) = false ->
 spec_LeastPay_j0 n mode r a6 a8 g8 R))))))
theorem spec_LeastPay_ret {a : ByteArray} {a0 : Bool} {a1 : Option Addr} {a2 a3 : Nat} {r0 : Bool} {a4 : Option Addr} {a5 a6 : Nat} {r2 n a7 : Int} (h : spec_LeastPay a a0 a1 a2 a3 r0 a4 a5 a6 r2 n a7 w R) : Ret P 56 [.agg #[.string a, .bool a0, .slice a1 a2 a3], .agg #[.bool r0, .slice a4 a5 a6, .int .i64 r2], .int .i64 n, .int .i64 a7] w R := Ret.of_fsem Tryz.func56 rfl (Eq.mp (show _ = fsem P Tryz.f56 (fun k => cond (Nat.beq k 6) [] ([])) _ R w from by kernel_rfl) h)
def impl_LeastPay_j0 (n mode : Int) (r a0 a1 : Nat) (W : World) (R : Value -> World -> Prop) : Prop :=
 ∀ a2 a3, New W (.cells ⟨[.bool false, .slice none 0 0]⟩ 31 (0, 0)) a2 a3 ->
 ∃ wv_6, Stores P 31 ⟨a2, 0, none⟩ (.agg #[.bool false, .slice none 0 0]) a3 wv_6 /\
 ∃ a4 a5 a6 a7 a8, Loads P 33 ⟨r, 0, none⟩ (.agg #[.string a4, .bool a5, .slice a6 a7 a8]) wv_6 /\ Calls P 134 ⟨[.agg #[.string a4, .bool a5, .slice a6 a7 a8]]⟩ wv_6 fun a9 aa =>
 ∃ ab, a9 = .returned (.bool ab) /\
 (ab = true ->
 ∃ ac, Loads P 9 ((⟨r, 0, none⟩ : Addr).add 0) (.string ac) aa /\ ∃ ae af ag ah, Loads P 31 ⟨a2, 0, none⟩ (.agg #[.bool ae, .slice af ag ah]) aa /\ ∃ wv_8, Stores P 33 ⟨a1, 0, none⟩ (.agg #[.string ac, .bool ae, .slice af ag ah]) aa wv_8 /\
 ∃ r0_2 r1_1 ai aj ak, Loads P 33 ⟨a1, 0, none⟩ (.agg #[.string r0_2, .bool r1_1, .slice ai aj ak]) wv_8 /\ R (.tuple #[.agg #[.string r0_2, .bool r1_1, .slice ai aj ak], .bool true]) wv_8) /\
 (ab = false ->
 ∃ al am an ao ap, Loads P 33 ⟨r, 0, none⟩ (.agg #[.string al, .bool am, .slice an ao ap]) aa /\ ∃ aq ar au av aw, Loads P 63 ⟨a0, 0, none⟩ (.agg #[.bool aq, .slice ar au av, .int .i64 aw]) aa /\ Calls P 122 ⟨[.agg #[.string al, .bool am, .slice an ao ap], .agg #[.bool aq, .slice ar au av, .int .i64 aw], .int .i64 mode]⟩ aa fun ax ay =>
 ∃ az b0 b1 b2 b3 b4 b5 b6 b7 b8 b9 ba bb, ax = .returned (.tuple #[.agg #[.string az, .bool b0, .slice b1 b2 b3], .agg #[.bool b4, .slice b5 b6 b7, .slice b8 b9 ba], .bool bb]) /\
 ∀ bc bd, New ay (.cells ⟨[.string ByteArray.empty, .bool false, .slice none 0 0]⟩ 33 (0, 0)) bc bd ->
 ∀ be bf, New bd (.cells ⟨[.bool false, .slice none 0 0, .slice none 0 0]⟩ 53 (0, 0)) be bf ->
 ∃ wv_12, Stores P 33 ⟨bc, 0, none⟩ (.agg #[.string az, .bool b0, .slice b1 b2 b3]) bf wv_12 /\
 ∃ wv_13, Stores P 53 ⟨be, 0, none⟩ (.agg #[.bool b4, .slice b5 b6 b7, .slice b8 b9 ba]) wv_12 wv_13 /\
 ((!bb) = true ->
 ∃ wv_14, Stores P 33 ⟨a1, 0, none⟩ (.agg #[.string ByteArray.empty, .bool false, .slice none 0 0]) wv_13 wv_14 /\
 ∃ r0_3 r1_2 bg bh bi, Loads P 33 ⟨a1, 0, none⟩ (.agg #[.string r0_3, .bool r1_2, .slice bg bh bi]) wv_14 /\ R (.tuple #[.agg #[.string r0_3, .bool r1_2, .slice bg bh bi], .bool false]) wv_14) /\
 ((!bb) = false ->
 ∃ bj bk bl bm, Loads P 31 ((⟨r, 0, none⟩ : Addr).add 1) (.agg #[.bool bj, .slice bk bl bm]) wv_13 /\ ∃ bn bo bp bq, Loads P 31 ((⟨bc, 0, none⟩ : Addr).add 1) (.agg #[.bool bn, .slice bo bp bq]) wv_13 /\ Calls P 121 ⟨[.agg #[.bool bj, .slice bk bl bm], .agg #[.bool bn, .slice bo bp bq]]⟩ wv_13 fun br bs =>
 ∃ bt bu bv bw, br = .returned (.agg #[.bool bt, .slice bu bv bw]) /\
 ∀ bx bz, New bs (.cells ⟨[.bool false, .slice none 0 0]⟩ 31 (0, 0)) bx bz ->
 ∃ wv_17, Stores P 31 ⟨bx, 0, none⟩ (.agg #[.bool bt, .slice bu bv bw]) bz wv_17 /\
 ∃ (c0 : World -> Prop) (mu : World -> Nat), c0 wv_17 /\
 ∀ (c1 : Fr) (c2 : World), c0 c2 ->
 ∃ c3 c4 c5 c6, Loads P 31 ⟨a2, 0, none⟩ (.agg #[.bool c3, .slice c4 c5 c6]) c2 /\ ∃ c7 c8 c9 ca, Loads P 31 ⟨bx, 0, none⟩ (.agg #[.bool c7, .slice c8 c9 ca]) c2 /\ Calls P 135 ⟨[.agg #[.bool c3, .slice c4 c5 c6], .agg #[.bool c7, .slice c8 c9 ca]]⟩ c2 fun cb cc =>
 ∃ cd, cb = .returned (.int .i64 cd) /\
 ((decide ((cd : Int) < 0)) = true ->
 ∃ ce cf cg, Loads P 22 ((⟨a2, 0, none⟩ : Addr).add 1) (.slice ce cf cg) cc /\ ∃ ch ci cj, Loads P 22 ((⟨bx, 0, none⟩ : Addr).add 1) (.slice ch ci cj) cc /\ Calls P 137 ⟨[.slice ce cf cg, .slice ch ci cj]⟩ cc fun ck cl =>
 ∃ cm cn co, ck = .returned (.slice cm cn co) /\
 Calls P 136 ⟨[.slice cm cn co, .int .i64 2]⟩ cl fun cp cq =>
 ∃ cr cs ct cu, cp = .returned (.tuple #[.slice cr cs ct, .int .i64 cu]) /\
 ∀ cv cw, New cq (.cells ⟨[.bool false, .slice none 0 0]⟩ 31 (0, 0)) cv cw ->
 ∃ wv_23, Stores P 31 ⟨cv, 0, none⟩ (.agg #[.bool false, .slice cr cs ct]) cw wv_23 /\
 ∃ cx cy cz d0 d1, Loads P 33 ⟨r, 0, none⟩ (.agg #[.string cx, .bool cy, .slice cz d0 d1]) wv_23 /\ ∃ d2 d3 d4 d5 d6, Loads P 63 ⟨a0, 0, none⟩ (.agg #[.bool d2, .slice d3 d4 d5, .int .i64 d6]) wv_23 /\ ∃ d7, Loads P 9 ((⟨r, 0, none⟩ : Addr).add 0) (.string d7) wv_23 /\ ∃ d8 d9 da db, Loads P 31 ⟨cv, 0, none⟩ (.agg #[.bool d8, .slice d9 da db]) wv_23 /\ Calls P 61 ⟨[.agg #[.string cx, .bool cy, .slice cz d0 d1], .agg #[.bool d2, .slice d3 d4 d5, .int .i64 d6], .agg #[.string d7, .bool d8, .slice d9 da db], .int .i64 n, .int .i64 mode]⟩ wv_23 fun dc dd =>
 ∃ de df dg dh, dc = .returned (.tuple #[.slice de df dg, .bool dh]) /\
 (dh = true ->
 Calls P 138 ⟨[.slice de df dg]⟩ dd fun di dj =>
 ∃ dk, di = .returned (.bool dk) /\
 (dk = true ->
 ∃ dl dm dn dp, Loads P 31 ⟨cv, 0, none⟩ (.agg #[.bool dl, .slice dm dn dp]) dj /\ ∃ wv_26, Stores P 31 ⟨bx, 0, none⟩ (.agg #[.bool dl, .slice dm dn dp]) dj wv_26 /\
 c0 wv_26 /\ mu wv_26 < mu c2) /\
 (dk = false ->
 ∃ dq dr ds dt, (∀ wv_27, Ext dj.drew wv_27 -> Loads P 31 ⟨cv, 0, none⟩ (.agg #[.bool dq, .slice dr ds dt]) wv_27) /\ Calls P 139 ⟨[.int .i64 1]⟩ dj.drew fun du dv =>
 ∃ dw dx dy dz, du = .returned (.agg #[.bool dw, .slice dx dy dz]) /\
 Ext dj.drew dv /\ Calls P 121 ⟨[.agg #[.bool dq, .slice dr ds dt], .agg #[.bool dw, .slice dx dy dz]]⟩ dv fun e0 e1 =>
 ∃ e2 e3 e4 e5, e0 = .returned (.agg #[.bool e2, .slice e3 e4 e5]) /\
 ∃ wv_30, Stores P 31 ⟨a2, 0, none⟩ (.agg #[.bool e2, .slice e3 e4 e5]) e1 wv_30 /\
 c0 wv_30 /\ mu wv_30 < mu c2)) /\
 (dh = false ->
 (false = true ->
 ∃ e6 e7 e8 e9, Loads P 31 ⟨cv, 0, none⟩ (.agg #[.bool e6, .slice e7 e8 e9]) dd /\ ∃ wv_31, Stores P 31 ⟨bx, 0, none⟩ (.agg #[.bool e6, .slice e7 e8 e9]) dd wv_31 /\
 c0 wv_31 /\ mu wv_31 < mu c2) /\
 (false = false ->
 ∃ ea eb ec ed, (∀ wv_32, Ext dd.drew wv_32 -> Loads P 31 ⟨cv, 0, none⟩ (.agg #[.bool ea, .slice eb ec ed]) wv_32) /\ Calls P 139 ⟨[.int .i64 1]⟩ dd.drew fun ee ef =>
 ∃ eg eh ei ej, ee = .returned (.agg #[.bool eg, .slice eh ei ej]) /\
 Ext dd.drew ef /\ Calls P 121 ⟨[.agg #[.bool ea, .slice eb ec ed], .agg #[.bool eg, .slice eh ei ej]]⟩ ef fun ek el =>
 ∃ em en eo ep, ek = .returned (.agg #[.bool em, .slice en eo ep]) /\
 ∃ wv_35, Stores P 31 ⟨a2, 0, none⟩ (.agg #[.bool em, .slice en eo ep]) el wv_35 /\
 c0 wv_35 /\ mu wv_35 < mu c2))) /\
 ((decide ((cd : Int) < 0)) = false ->
 ∃ eq, Loads P 9 ((⟨r, 0, none⟩ : Addr).add 0) (.string eq) cc /\ ∃ er es et eu, Loads P 31 ⟨bx, 0, none⟩ (.agg #[.bool er, .slice es et eu]) cc /\ ∃ wv_36, Stores P 33 ⟨a1, 0, none⟩ (.agg #[.string eq, .bool er, .slice es et eu]) cc wv_36 /\
 ∃ r0_4 r1_3 ev ew ex, Loads P 33 ⟨a1, 0, none⟩ (.agg #[.string r0_4, .bool r1_3, .slice ev ew ex]) wv_36 /\ R (.tuple #[.agg #[.string r0_4, .bool r1_3, .slice ev ew ex], .bool true]) wv_36)))
abbrev impl_LeastPay_z0 (q : Nat) (x : World) (R : Value -> World -> Prop) : Prop :=
 ∃ y, Stores P 33 ⟨q, 0, none⟩ (.agg #[.string ByteArray.empty, .bool false, .slice none 0 0]) x y /\ ∃ r0_1 r1 ai aj ak, Loads P 33 ⟨q, 0, none⟩ (.agg #[.string r0_1, .bool r1, .slice ai aj ak]) y /\ R (.tuple #[.agg #[.string r0_1, .bool r1, .slice ai aj ak], .bool false]) y
def impl_LeastPay (left0 : ByteArray) (left1 : Bool) (a0 : Option Addr) (a1 a2 : Nat) (r0 : Bool) (a3 : Option Addr) (a4 a5 : Nat) (r2 n mode : Int) (w : World) (R : Value -> World -> Prop) : Prop :=
 ∀ r wv, New w (.cells ⟨[.string left0, .bool left1, .slice a0 a1 a2]⟩ 33 (0, 0)) r wv ->
 ∀ a6 a7, New wv (.cells ⟨[.bool r0, .slice a3 a4 a5, .int .i64 r2]⟩ 63 (0, 0)) a6 a7 ->
 ∀ a8 a9, New a7 (.cells ⟨[.string ByteArray.empty, .bool false, .slice none 0 0]⟩ 33 (0, 0)) a8 a9 ->
 ∃ aa ab ac ae af, Loads P 33 ⟨r, 0, none⟩ (.agg #[.string aa, .bool ab, .slice ac ae af]) a9 /\ Calls P 69 ⟨[.agg #[.string aa, .bool ab, .slice ac ae af]]⟩ a9 fun e ag =>
 ∃ ah, e = .returned (.bool ah) /\
 ((!ah) = true ->
 (true = true ->
 (true = true ->
 (true = true ->
 (true = true ->
 (true = true ->
 (true = true ->
 impl_LeastPay_z0 a8 ag R) /\
 (true = false ->
 impl_LeastPay_j0 n mode r a6 a8 ag R)) /\
 (true = false ->
 Calls P 133 ⟨[.int .i64 mode]⟩ ag fun al am =>
 ∃ an, al = .returned (.bool an) /\
 ((!an) = true ->
 impl_LeastPay_z0 a8 am R) /\
 ((!an) = false ->
 impl_LeastPay_j0 n mode r a6 a8 am R))) /\
 (true = false ->
 ((decide ((24 : Int) < n)) = true ->
 (true = true ->
 impl_LeastPay_z0 a8 ag R) /\
 (true = false ->
 impl_LeastPay_j0 n mode r a6 a8 ag R)) /\
 ((decide ((24 : Int) < n)) = false ->
 Calls P 133 ⟨[.int .i64 mode]⟩ ag fun aw ax =>
 ∃ ay, aw = .returned (.bool ay) /\
 ((!ay) = true ->
 impl_LeastPay_z0 a8 ax R) /\
 ((!ay) = false ->
 impl_LeastPay_j0 n mode r a6 a8 ax R)))) /\
 (true = false ->
 ((decide ((n : Int) < 1)) = true ->
 (true = true ->
 (true = true ->
 impl_LeastPay_z0 a8 ag R) /\
 (true = false ->
 impl_LeastPay_j0 n mode r a6 a8 ag R)) /\
 (true = false ->
 Calls P 133 ⟨[.int .i64 mode]⟩ ag fun b5 b6 =>
 ∃ b7, b5 = .returned (.bool b7) /\
 ((!b7) = true ->
 impl_LeastPay_z0 a8 b6 R) /\
 ((!b7) = false ->
 impl_LeastPay_j0 n mode r a6 a8 b6 R))) /\
 ((decide ((n : Int) < 1)) = false ->
 ((decide ((24 : Int) < n)) = true ->
 (true = true ->
 impl_LeastPay_z0 a8 ag R) /\
 (true = false ->
 impl_LeastPay_j0 n mode r a6 a8 ag R)) /\
 ((decide ((24 : Int) < n)) = false ->
 Calls P 133 ⟨[.int .i64 mode]⟩ ag fun be bf =>
 ∃ bg, be = .returned (.bool bg) /\
 ((!bg) = true ->
 impl_LeastPay_z0 a8 bf R) /\
 ((!bg) = false ->
 impl_LeastPay_j0 n mode r a6 a8 bf R))))) /\
 (true = false ->
 ∃ bk bl bm bn bo, Loads P 63 ⟨a6, 0, none⟩ (.agg #[.bool bk, .slice bl bm bn, .int .i64 bo]) ag /\ Calls P 118 ⟨[.agg #[.bool bk, .slice bl bm bn, .int .i64 bo]]⟩ ag fun bp bq =>
 ∃ br, bp = .returned (.bool br) /\
 ((!br) = true ->
 (true = true ->
 (true = true ->
 (true = true ->
 impl_LeastPay_z0 a8 bq R) /\
 (true = false ->
 impl_LeastPay_j0 n mode r a6 a8 bq R)) /\
 (true = false ->
 Calls P 133 ⟨[.int .i64 mode]⟩ bq fun bv bw =>
 ∃ bx, bv = .returned (.bool bx) /\
 ((!bx) = true ->
 impl_LeastPay_z0 a8 bw R) /\
 ((!bx) = false ->
 impl_LeastPay_j0 n mode r a6 a8 bw R))) /\
 (true = false ->
 ((decide ((24 : Int) < n)) = true ->
 (true = true ->
 impl_LeastPay_z0 a8 bq R) /\
 (true = false ->
 impl_LeastPay_j0 n mode r a6 a8 bq R)) /\
 ((decide ((24 : Int) < n)) = false ->
 Calls P 133 ⟨[.int .i64 mode]⟩ bq fun c5 c6 =>
 ∃ c7, c5 = .returned (.bool c7) /\
 ((!c7) = true ->
 impl_LeastPay_z0 a8 c6 R) /\
 ((!c7) = false ->
 impl_LeastPay_j0 n mode r a6 a8 c6 R)))) /\
 ((!br) = false ->
 ((decide ((n : Int) < 1)) = true ->
 (true = true ->
 (true = true ->
 impl_LeastPay_z0 a8 bq R) /\
 (true = false ->
 impl_LeastPay_j0 n mode r a6 a8 bq R)) /\
 (true = false ->
 Calls P 133 ⟨[.int .i64 mode]⟩ bq fun ce cf =>
 ∃ cg, ce = .returned (.bool cg) /\
 ((!cg) = true ->
 impl_LeastPay_z0 a8 cf R) /\
 ((!cg) = false ->
 impl_LeastPay_j0 n mode r a6 a8 cf R))) /\
 ((decide ((n : Int) < 1)) = false ->
 ((decide ((24 : Int) < n)) = true ->
 (true = true ->
 impl_LeastPay_z0 a8 bq R) /\
 (true = false ->
 impl_LeastPay_j0 n mode r a6 a8 bq R)) /\
 ((decide ((24 : Int) < n)) = false ->
 Calls P 133 ⟨[.int .i64 mode]⟩ bq fun cn co =>
 ∃ cp, cn = .returned (.bool cp) /\
 ((!cp) = true ->
 impl_LeastPay_z0 a8 co R) /\
 ((!cp) = false ->
 impl_LeastPay_j0 n mode r a6 a8 co R)))))) /\
 (true = false ->
 ∃ ct cu cv, Loads P 22 (((⟨r, 0, none⟩ : Addr).add 1).add 1) (.slice ct cu cv) ag /\ ((decide ((2 : Int) < ((cu : Nat) : Int))) = true ->
 (true = true ->
 (true = true ->
 (true = true ->
 (true = true ->
 impl_LeastPay_z0 a8 ag R) /\
 (true = false ->
 impl_LeastPay_j0 n mode r a6 a8 ag R)) /\
 (true = false ->
 Calls P 133 ⟨[.int .i64 mode]⟩ ag fun cz d0 =>
 ∃ d1, cz = .returned (.bool d1) /\
 ((!d1) = true ->
 impl_LeastPay_z0 a8 d0 R) /\
 ((!d1) = false ->
 impl_LeastPay_j0 n mode r a6 a8 d0 R))) /\
 (true = false ->
 ((decide ((24 : Int) < n)) = true ->
 (true = true ->
 impl_LeastPay_z0 a8 ag R) /\
 (true = false ->
 impl_LeastPay_j0 n mode r a6 a8 ag R)) /\
 ((decide ((24 : Int) < n)) = false ->
 Calls P 133 ⟨[.int .i64 mode]⟩ ag fun d8 d9 =>
 ∃ da, d8 = .returned (.bool da) /\
 ((!da) = true ->
 impl_LeastPay_z0 a8 d9 R) /\
 ((!da) = false ->
 impl_LeastPay_j0 n mode r a6 a8 d9 R)))) /\
 (true = false ->
 ((decide ((n : Int) < 1)) = true ->
 (true = true ->
 (true = true ->
 impl_LeastPay_z0 a8 ag R) /\
 (true = false ->
 impl_LeastPay_j0 n mode r a6 a8 ag R)) /\
 (true = false ->
 Calls P 133 ⟨[.int .i64 mode]⟩ ag fun dh di =>
 ∃ dj, dh = .returned (.bool dj) /\
 ((!dj) = true ->
 impl_LeastPay_z0 a8 di R) /\
 ((!dj) = false ->
 impl_LeastPay_j0 n mode r a6 a8 di R))) /\
 ((decide ((n : Int) < 1)) = false ->
 ((decide ((24 : Int) < n)) = true ->
 (true = true ->
 impl_LeastPay_z0 a8 ag R) /\
 (true = false ->
 impl_LeastPay_j0 n mode r a6 a8 ag R)) /\
 ((decide ((24 : Int) < n)) = false ->
 Calls P 133 ⟨[.int .i64 mode]⟩ ag fun dr ds =>
 ∃ dt, dr = .returned (.bool dt) /\
 ((!dt) = true ->
 impl_LeastPay_z0 a8 ds R) /\
 ((!dt) = false ->
 impl_LeastPay_j0 n mode r a6 a8 ds R))))) /\
 ((decide ((2 : Int) < ((cu : Nat) : Int))) = false ->
 ∃ dx dy dz e0 e1, Loads P 63 ⟨a6, 0, none⟩ (.agg #[.bool dx, .slice dy dz e0, .int .i64 e1]) ag /\ Calls P 118 ⟨[.agg #[.bool dx, .slice dy dz e0, .int .i64 e1]]⟩ ag fun e2 e3 =>
 ∃ e4, e2 = .returned (.bool e4) /\
 ((!e4) = true ->
 (true = true ->
 (true = true ->
 (true = true ->
 impl_LeastPay_z0 a8 e3 R) /\
 (true = false ->
 impl_LeastPay_j0 n mode r a6 a8 e3 R)) /\
 (true = false ->
 Calls P 133 ⟨[.int .i64 mode]⟩ e3 fun e8 e9 =>
 ∃ ea, e8 = .returned (.bool ea) /\
 ((!ea) = true ->
 impl_LeastPay_z0 a8 e9 R) /\
 ((!ea) = false ->
 impl_LeastPay_j0 n mode r a6 a8 e9 R))) /\
 (true = false ->
 ((decide ((24 : Int) < n)) = true ->
 (true = true ->
 impl_LeastPay_z0 a8 e3 R) /\
 (true = false ->
 impl_LeastPay_j0 n mode r a6 a8 e3 R)) /\
 ((decide ((24 : Int) < n)) = false ->
 Calls P 133 ⟨[.int .i64 mode]⟩ e3 fun eh ei =>
 ∃ ej, eh = .returned (.bool ej) /\
 ((!ej) = true ->
 impl_LeastPay_z0 a8 ei R) /\
 ((!ej) = false ->
 impl_LeastPay_j0 n mode r a6 a8 ei R)))) /\
 ((!e4) = false ->
 ((decide ((n : Int) < 1)) = true ->
 (true = true ->
 (true = true ->
 impl_LeastPay_z0 a8 e3 R) /\
 (true = false ->
 impl_LeastPay_j0 n mode r a6 a8 e3 R)) /\
 (true = false ->
 Calls P 133 ⟨[.int .i64 mode]⟩ e3 fun eq er =>
 ∃ es, eq = .returned (.bool es) /\
 ((!es) = true ->
 impl_LeastPay_z0 a8 er R) /\
 ((!es) = false ->
 impl_LeastPay_j0 n mode r a6 a8 er R))) /\
 ((decide ((n : Int) < 1)) = false ->
 ((decide ((24 : Int) < n)) = true ->
 (true = true ->
 impl_LeastPay_z0 a8 e3 R) /\
 (true = false ->
 impl_LeastPay_j0 n mode r a6 a8 e3 R)) /\
 ((decide ((24 : Int) < n)) = false ->
 Calls P 133 ⟨[.int .i64 mode]⟩ e3 fun ez f0 =>
 ∃ f1, ez = .returned (.bool f1) /\
 ((!f1) = true ->
 impl_LeastPay_z0 a8 f0 R) /\
 ((!f1) = false ->
 impl_LeastPay_j0 n mode r a6 a8 f0 R))))))) /\
 ((!ah) = false ->
 ∃ f5, Loads P 4 (((⟨r, 0, none⟩ : Addr).add 1).add 0) (.bool f5) ag /\ (f5 = true ->
 (true = true ->
 (true = true ->
 (true = true ->
 (true = true ->
 (true = true ->
 impl_LeastPay_z0 a8 ag R) /\
 (true = false ->
 impl_LeastPay_j0 n mode r a6 a8 ag R)) /\
 (true = false ->
 Calls P 133 ⟨[.int .i64 mode]⟩ ag fun f9 fa =>
 ∃ fb, f9 = .returned (.bool fb) /\
 ((!fb) = true ->
 impl_LeastPay_z0 a8 fa R) /\
 ((!fb) = false ->
 impl_LeastPay_j0 n mode r a6 a8 fa R))) /\
 (true = false ->
 ((decide ((24 : Int) < n)) = true ->
 (true = true ->
 impl_LeastPay_z0 a8 ag R) /\
 (true = false ->
 impl_LeastPay_j0 n mode r a6 a8 ag R)) /\
 ((decide ((24 : Int) < n)) = false ->
 Calls P 133 ⟨[.int .i64 mode]⟩ ag fun fi fj =>
 ∃ fk, fi = .returned (.bool fk) /\
 ((!fk) = true ->
 impl_LeastPay_z0 a8 fj R) /\
 ((!fk) = false ->
 impl_LeastPay_j0 n mode r a6 a8 fj R)))) /\
 (true = false ->
 ((decide ((n : Int) < 1)) = true ->
 (true = true ->
 (true = true ->
 impl_LeastPay_z0 a8 ag R) /\
 (true = false ->
 impl_LeastPay_j0 n mode r a6 a8 ag R)) /\
 (true = false ->
 Calls P 133 ⟨[.int .i64 mode]⟩ ag fun fr fs =>
 ∃ ft, fr = .returned (.bool ft) /\
 ((!ft) = true ->
 impl_LeastPay_z0 a8 fs R) /\
 ((!ft) = false ->
 impl_LeastPay_j0 n mode r a6 a8 fs R))) /\
 ((decide ((n : Int) < 1)) = false ->
 ((decide ((24 : Int) < n)) = true ->
 (true = true ->
 impl_LeastPay_z0 a8 ag R) /\
 (true = false ->
 impl_LeastPay_j0 n mode r a6 a8 ag R)) /\
 ((decide ((24 : Int) < n)) = false ->
 Calls P 133 ⟨[.int .i64 mode]⟩ ag fun g0 g1 =>
 ∃ g2, g0 = .returned (.bool g2) /\
 ((!g2) = true ->
 impl_LeastPay_z0 a8 g1 R) /\
 ((!g2) = false ->
 impl_LeastPay_j0 n mode r a6 a8 g1 R))))) /\
 (true = false ->
 ∃ g6 g7 g8 g9 ga, Loads P 63 ⟨a6, 0, none⟩ (.agg #[.bool g6, .slice g7 g8 g9, .int .i64 ga]) ag /\ Calls P 118 ⟨[.agg #[.bool g6, .slice g7 g8 g9, .int .i64 ga]]⟩ ag fun gb gc =>
 ∃ gd, gb = .returned (.bool gd) /\
 ((!gd) = true ->
 (true = true ->
 (true = true ->
 (true = true ->
 impl_LeastPay_z0 a8 gc R) /\
 (true = false ->
 impl_LeastPay_j0 n mode r a6 a8 gc R)) /\
 (true = false ->
 Calls P 133 ⟨[.int .i64 mode]⟩ gc fun gh gi =>
 ∃ gj, gh = .returned (.bool gj) /\
 ((!gj) = true ->
 impl_LeastPay_z0 a8 gi R) /\
 ((!gj) = false ->
 impl_LeastPay_j0 n mode r a6 a8 gi R))) /\
 (true = false ->
 ((decide ((24 : Int) < n)) = true ->
 (true = true ->
 impl_LeastPay_z0 a8 gc R) /\
 (true = false ->
 impl_LeastPay_j0 n mode r a6 a8 gc R)) /\
 ((decide ((24 : Int) < n)) = false ->
 Calls P 133 ⟨[.int .i64 mode]⟩ gc fun gq gr =>
 ∃ gs, gq = .returned (.bool gs) /\
 ((!gs) = true ->
 impl_LeastPay_z0 a8 gr R) /\
 ((!gs) = false ->
 impl_LeastPay_j0 n mode r a6 a8 gr R)))) /\
 ((!gd) = false ->
 ((decide ((n : Int) < 1)) = true ->
 (true = true ->
 (true = true ->
 impl_LeastPay_z0 a8 gc R) /\
 (true = false ->
 impl_LeastPay_j0 n mode r a6 a8 gc R)) /\
 (true = false ->
 Calls P 133 ⟨[.int .i64 mode]⟩ gc fun gz h0 =>
 ∃ h1, gz = .returned (.bool h1) /\
 ((!h1) = true ->
 impl_LeastPay_z0 a8 h0 R) /\
 ((!h1) = false ->
 impl_LeastPay_j0 n mode r a6 a8 h0 R))) /\
 ((decide ((n : Int) < 1)) = false ->
 ((decide ((24 : Int) < n)) = true ->
 (true = true ->
 impl_LeastPay_z0 a8 gc R) /\
 (true = false ->
 impl_LeastPay_j0 n mode r a6 a8 gc R)) /\
 ((decide ((24 : Int) < n)) = false ->
 Calls P 133 ⟨[.int .i64 mode]⟩ gc fun h8 h9 =>
 ∃ ha, h8 = .returned (.bool ha) /\
 ((!ha) = true ->
 impl_LeastPay_z0 a8 h9 R) /\
 ((!ha) = false ->
 impl_LeastPay_j0 n mode r a6 a8 h9 R)))))) /\
 (f5 = false ->
 ∃ he hf hg, Loads P 22 (((⟨r, 0, none⟩ : Addr).add 1).add 1) (.slice he hf hg) ag /\ ((decide ((2 : Int) < ((hf : Nat) : Int))) = true ->
 (true = true ->
 (true = true ->
 (true = true ->
 (true = true ->
 impl_LeastPay_z0 a8 ag R) /\
 (true = false ->
 impl_LeastPay_j0 n mode r a6 a8 ag R)) /\
 (true = false ->
 Calls P 133 ⟨[.int .i64 mode]⟩ ag fun hk hl =>
 ∃ hm, hk = .returned (.bool hm) /\
 ((!hm) = true ->
 impl_LeastPay_z0 a8 hl R) /\
 ((!hm) = false ->
 impl_LeastPay_j0 n mode r a6 a8 hl R))) /\
 (true = false ->
 ((decide ((24 : Int) < n)) = true ->
 (true = true ->
 impl_LeastPay_z0 a8 ag R) /\
 (true = false ->
 impl_LeastPay_j0 n mode r a6 a8 ag R)) /\
 ((decide ((24 : Int) < n)) = false ->
 Calls P 133 ⟨[.int .i64 mode]⟩ ag fun ht hu =>
 ∃ hv, ht = .returned (.bool hv) /\
 ((!hv) = true ->
 impl_LeastPay_z0 a8 hu R) /\
 ((!hv) = false ->
 impl_LeastPay_j0 n mode r a6 a8 hu R)))) /\
 (true = false ->
 ((decide ((n : Int) < 1)) = true ->
 (true = true ->
 (true = true ->
 impl_LeastPay_z0 a8 ag R) /\
 (true = false ->
 impl_LeastPay_j0 n mode r a6 a8 ag R)) /\
 (true = false ->
 Calls P 133 ⟨[.int .i64 mode]⟩ ag fun i2 i3 =>
 ∃ i4, i2 = .returned (.bool i4) /\
 ((!i4) = true ->
 impl_LeastPay_z0 a8 i3 R) /\
 ((!i4) = false ->
 impl_LeastPay_j0 n mode r a6 a8 i3 R))) /\
 ((decide ((n : Int) < 1)) = false ->
 ((decide ((24 : Int) < n)) = true ->
 (true = true ->
 impl_LeastPay_z0 a8 ag R) /\
 (true = false ->
 impl_LeastPay_j0 n mode r a6 a8 ag R)) /\
 ((decide ((24 : Int) < n)) = false ->
 Calls P 133 ⟨[.int .i64 mode]⟩ ag fun ib ic =>
 ∃ id, ib = .returned (.bool id) /\
 ((!id) = true ->
 impl_LeastPay_z0 a8 ic R) /\
 ((!id) = false ->
 impl_LeastPay_j0 n mode r a6 a8 ic R))))) /\
 ((decide ((2 : Int) < ((hf : Nat) : Int))) = false ->
 ∃ ii ij ik il im, Loads P 63 ⟨a6, 0, none⟩ (.agg #[.bool ii, .slice ij ik il, .int .i64 im]) ag /\ Calls P 118 ⟨[.agg #[.bool ii, .slice ij ik il, .int .i64 im]]⟩ ag fun io ip =>
 ∃ iq, io = .returned (.bool iq) /\
 ((!iq) = true ->
 (true = true ->
 (true = true ->
 (true = true ->
 impl_LeastPay_z0 a8 ip R) /\
 (true = false ->
 impl_LeastPay_j0 n mode r a6 a8 ip R)) /\
 (true = false ->
 Calls P 133 ⟨[.int .i64 mode]⟩ ip fun iv iw =>
 ∃ ix, iv = .returned (.bool ix) /\
 ((!ix) = true ->
 impl_LeastPay_z0 a8 iw R) /\
 ((!ix) = false ->
 impl_LeastPay_j0 n mode r a6 a8 iw R))) /\
 (true = false ->
 ((decide ((24 : Int) < n)) = true ->
 (true = true ->
 impl_LeastPay_z0 a8 ip R) /\
 (true = false ->
 impl_LeastPay_j0 n mode r a6 a8 ip R)) /\
 ((decide ((24 : Int) < n)) = false ->
 Calls P 133 ⟨[.int .i64 mode]⟩ ip fun j4 j5 =>
 ∃ j6, j4 = .returned (.bool j6) /\
 ((!j6) = true ->
 impl_LeastPay_z0 a8 j5 R) /\
 ((!j6) = false ->
 impl_LeastPay_j0 n mode r a6 a8 j5 R)))) /\
 ((!iq) = false ->
 ((decide ((n : Int) < 1)) = true ->
 (true = true ->
 (true = true ->
 impl_LeastPay_z0 a8 ip R) /\
 (true = false ->
 impl_LeastPay_j0 n mode r a6 a8 ip R)) /\
 (true = false ->
 Calls P 133 ⟨[.int .i64 mode]⟩ ip fun jd je =>
 ∃ jf, jd = .returned (.bool jf) /\
 ((!jf) = true ->
 impl_LeastPay_z0 a8 je R) /\
 ((!jf) = false ->
 impl_LeastPay_j0 n mode r a6 a8 je R))) /\
 ((decide ((n : Int) < 1)) = false ->
 ((decide ((24 : Int) < n)) = true ->
 (true = true ->
 impl_LeastPay_z0 a8 ip R) /\
 (true = false ->
 impl_LeastPay_j0 n mode r a6 a8 ip R)) /\
 ((decide ((24 : Int) < n)) = false ->
 Calls P 133 ⟨[.int .i64 mode]⟩ ip fun jm jn =>
 ∃ jo, jm = .returned (.bool jo) /\
 ((!jo) = true ->
 impl_LeastPay_z0 a8 jn R) /\
 ((!jo) = false ->
 impl_LeastPay_j0 n mode r a6 a8 jn R)))))))
theorem impl_LeastPay_ret {a : ByteArray} {a0 : Bool} {a1 : Option Addr} {a2 a3 : Nat} {r0 : Bool} {a4 : Option Addr} {a5 a6 : Nat} {r2 n a7 : Int} (h : impl_LeastPay a a0 a1 a2 a3 r0 a4 a5 a6 r2 n a7 w R) : Ret P 58 [.agg #[.string a, .bool a0, .slice a1 a2 a3], .agg #[.bool r0, .slice a4 a5 a6, .int .i64 r2], .int .i64 n, .int .i64 a7] w R := Ret.of_fsem Tryz.func58 rfl (Eq.mp (show _ = fsem P Tryz.f58 (fun k => cond (Nat.beq k 11) [] ([])) _ R w from by kernel_rfl) h)
def spec_Plan_j1 (mode : Int) (a0 a1 a2 : Nat) (a3 : World) (a4 : Option Addr -> Nat -> Nat -> World -> Prop) (mu : Option Addr -> Nat -> Nat -> World -> Nat) (a5 : Option Addr) (a6 a7 : Nat) (a8 : World) (R : Value -> World -> Prop) : Prop :=
 ∃ a9 aa ab ac ae, Loads P 33 ⟨a2, 0, none⟩ (.agg #[.string a9, .bool aa, .slice ab ac ae]) a8 /\ ∃ af ag ah ai aj, Loads P 63 ⟨a0, 0, none⟩ (.agg #[.bool af, .slice ag ah ai, .int .i64 aj]) a8 /\ ∃ ak al am an ao, Loads P 33 ⟨a1, 0, none⟩ (.agg #[.string ak, .bool al, .slice am an ao]) a8 /\ Calls P 142 ⟨[.agg #[.string a9, .bool aa, .slice ab ac ae], .agg #[.bool af, .slice ag ah ai, .int .i64 aj], .agg #[.string ak, .bool al, .slice am an ao], .int .i64 mode]⟩ a8 fun ap aq =>
 ∃ ar au av aw ax ay az b0 b1 b2 b3 b4 b5 b6 b7 b8, ap = .returned (.tuple #[.agg #[.string ar, .bool au, .slice av aw ax, .string ay, .bool az, .slice b0 b1 b2, .string b3, .bool b4, .slice b5 b6 b7], .bool b8]) /\
 ∀ b9 ba, New aq (.cells ⟨[.string ByteArray.empty, .bool false, .slice none 0 0, .string ByteArray.empty, .bool false, .slice none 0 0, .string ByteArray.empty, .bool false, .slice none 0 0]⟩ 172 (0, 0)) b9 ba ->
 ∃ wv_11, Stores P 172 ⟨b9, 0, none⟩ (.agg #[.string ar, .bool au, .slice av aw ax, .string ay, .bool az, .slice b0 b1 b2, .string b3, .bool b4, .slice b5 b6 b7]) ba wv_11 /\
 ((!b8) = true ->
 R (.tuple #[.slice none 0 0, .bool false]) wv_11) /\
 ((!b8) = false ->
 ∃ bb bc bd be bf bg bh bi bj bk bl bm bn bo bp, Loads P 172 ⟨b9, 0, none⟩ (.agg #[.string bb, .bool bc, .slice bd be bf, .string bg, .bool bh, .slice bi bj bk, .string bl, .bool bm, .slice bn bo bp]) wv_11 /\ ∀ bq br, New wv_11 (.cells ⟨[.string bb, .bool bc, .slice bd be bf, .string bg, .bool bh, .slice bi bj bk, .string bl, .bool bm, .slice bn bo bp]⟩ 172 (0, 0)) bq br ->
 ∃ bs bt bu bv, Appends P [93, 93] [.slice a5 a6 a7, (.slice (some ⟨bq, 0, none⟩) 1 1)] (.slice bs bt bu) br bv /\
 ∃ bw bx bz c0 c1, Loads P 33 ((⟨b9, 0, none⟩ : Addr).add 6) (.agg #[.string bw, .bool bx, .slice bz c0 c1]) bv /\ ∃ wv_14, Stores P 33 ⟨a2, 0, none⟩ (.agg #[.string bw, .bool bx, .slice bz c0 c1]) bv wv_14 /\
 a4 bs bt bu wv_14 /\ mu bs bt bu wv_14 < mu a5 a6 a7 a3)
def spec_Plan_j0 (n mode : Int) (r a0 a1 : Nat) (W : World) (R : Value -> World -> Prop) : Prop :=
 ∀ a2 a3, New W (.cells ⟨[]⟩ 172 (0, 0)) a2 a3 ->
 ∃ a4 a5 a6 a7 a8, Loads P 33 ⟨r, 0, none⟩ (.agg #[.string a4, .bool a5, .slice a6 a7 a8]) a3 /\ ∀ a9 aa, New a3 (.cells ⟨[.string ByteArray.empty, .bool false, .slice none 0 0]⟩ 33 (0, 0)) a9 aa ->
 ∃ wv_6, Stores P 33 ⟨a9, 0, none⟩ (.agg #[.string a4, .bool a5, .slice a6 a7 a8]) aa wv_6 /\
 ∃ (ab : Option Addr -> Nat -> Nat -> World -> Prop) (mu : Option Addr -> Nat -> Nat -> World -> Nat), ab (some ⟨a2, 0, none⟩) 0 0 wv_6 /\
 ∀ (ac : Fr) (ae : World) (af : Option Addr) (ag ah : Nat), ab af ag ah ae ->
 ((decide ((((ag : Nat) : Int) : Int) < n)) = true ->
 ∃ ai aj ak al, Loads P 31 ((⟨a9, 0, none⟩ : Addr).add 1) (.agg #[.bool ai, .slice aj ak al]) ae /\ Calls P 141 ⟨[.agg #[.bool ai, .slice aj ak al]]⟩ ae fun am an =>
 ∃ ao, am = .returned (.int .i64 ao) /\
 ((decide ((ao : Int) ≠ 0)) = true ->
 spec_Plan_j1 mode a0 a1 a9 ae ab mu af ag ah an R) /\
 ((decide ((ao : Int) ≠ 0)) = false ->
 R (.tuple #[.slice af ag ah, .bool true]) an)) /\
 ((decide ((((ag : Nat) : Int) : Int) < n)) = false ->
 (false = true ->
 spec_Plan_j1 mode a0 a1 a9 ae ab mu af ag ah ae R) /\
 (false = false ->
 R (.tuple #[.slice af ag ah, .bool true]) ae))
def spec_Plan (left0 : ByteArray) (left1 : Bool) (a0 : Option Addr) (a1 a2 : Nat) (r0 : Bool) (a3 : Option Addr) (a4 a5 : Nat) (r2 : Int) (pay0 : ByteArray) (pay1 : Bool) (a6 : Option Addr) (a7 a8 : Nat) (n mode : Int) (w : World) (R : Value -> World -> Prop) : Prop :=
 ∀ r wv, New w (.cells ⟨[.string left0, .bool left1, .slice a0 a1 a2]⟩ 33 (0, 0)) r wv ->
 ∀ a9 aa, New wv (.cells ⟨[.bool r0, .slice a3 a4 a5, .int .i64 r2]⟩ 63 (0, 0)) a9 aa ->
 ∀ ab ac, New aa (.cells ⟨[.string pay0, .bool pay1, .slice a6 a7 a8]⟩ 33 (0, 0)) ab ac ->
 Calls P 125 ⟨[.int .i64 n, .int .i64 1, .int .i64 24]⟩ ac fun e ae =>
 ∃ af, e = .returned (.bool af) /\
 ((!af) = true ->
 (true = true ->
 R (.tuple #[.slice none 0 0, .bool false]) ae) /\
 (true = false ->
 spec_Plan_j0 n mode r a9 ab ae R)) /\
 ((!af) = false ->
 ∃ ag ah ai aj ak, Loads P 33 ⟨r, 0, none⟩ (.agg #[.string ag, .bool ah, .slice ai aj ak]) ae /\ ∃ al am an ao ap, Loads P 33 ⟨ab, 0, none⟩ (.agg #[.string al, .bool am, .slice an ao ap]) ae /\ Calls P 140 ⟨[.agg #[.string ag, .bool ah, .slice ai aj ak], .agg #[.string al, .bool am, .slice an ao ap]]⟩ ae fun aq ar =>
 ∃ au, aq = .returned (.bool au) /\
 ((!au) = true ->
 R (.tuple #[.slice none 0 0, .bool false]) ar) /\
 ((!au) = false ->
 spec_Plan_j0 n mode r a9 ab ar R))
theorem spec_Plan_ret {a : ByteArray} {a0 : Bool} {a1 : Option Addr} {a2 a3 : Nat} {r0 : Bool} {a4 : Option Addr} {a5 a6 : Nat} {r2 : Int} {a7 : ByteArray} {a8 : Bool} {a9 : Option Addr} {b b0 : Nat} {n b1 : Int} (h : spec_Plan a a0 a1 a2 a3 r0 a4 a5 a6 r2 a7 a8 a9 b b0 n b1 w R) : Ret P 60 [.agg #[.string a, .bool a0, .slice a1 a2 a3], .agg #[.bool r0, .slice a4 a5 a6, .int .i64 r2], .agg #[.string a7, .bool a8, .slice a9 b b0], .int .i64 n, .int .i64 b1] w R := Ret.of_fsem Tryz.func60 rfl (Eq.mp (show _ = fsem P Tryz.f60 (fun k => cond (Nat.beq k 6) [(12, .one .slice)] ([])) _ R w from by kernel_rfl) h)
end Go.Proofs.YtfehpaekbbmkcaaGreatDoor
namespace Go.Proofs.YtfehpaekbbmkcaaGreatDoor
variable {w : World} {R : Value -> World -> Prop}
open Go Go.Proofs.YtfehpaekbbmkcaaGreatDoor.Sx
set_option maxRecDepth 100000
def spec_MoneyOk (m0 : ByteArray) (m1 : Bool) (a0 : Option Addr) (a1 a2 : Nat) (w : World) (R : Value -> World -> Prop) : Prop :=
 ∀ r wv, New w (.cells ⟨[.string m0, .bool m1, .slice a0 a1 a2]⟩ 33 (0, 0)) r wv ->
 ∃ t4, Loads P 9 ((⟨r, 0, none⟩ : Addr).add 0) (.string t4) wv /\ Calls P 80 ⟨[.string t4]⟩ wv fun e a3 =>
 ∃ t5, e = .returned (.bool t5) /\
 (t5 = true ->
 ∃ a4 a5 a6 a7, Loads P 31 ((⟨r, 0, none⟩ : Addr).add 1) (.agg #[.bool a4, .slice a5 a6 a7]) a3 /\ Calls P 151 ⟨[.agg #[.bool a4, .slice a5 a6 a7]]⟩ a3 fun a8 a9 =>
 ∃ t9, a8 = .returned (.bool t9) /\
 (t9 = true ->
 ∃ aa ab ac, Loads P 22 (((⟨r, 0, none⟩ : Addr).add 1).add 1) (.slice aa ab ac) a9 /\ R (.bool (decide ((((ab : Nat) : Int) : Int) <= 4))) a9) /\
 (t9 = false ->
 R (.bool false) a9)) /\
 (t5 = false ->
 (false = true ->
 ∃ ae af ag, Loads P 22 (((⟨r, 0, none⟩ : Addr).add 1).add 1) (.slice ae af ag) a3 /\ R (.bool (decide ((((af : Nat) : Int) : Int) <= 4))) a3) /\
 (false = false ->
 R (.bool false) a3))
theorem spec_MoneyOk_ret {m0 : ByteArray} {m1 : Bool} {a : Option Addr} {a0 a1 : Nat} (h : spec_MoneyOk m0 m1 a a0 a1 w R) : Ret P 67 [.agg #[.string m0, .bool m1, .slice a a0 a1]] w R := Ret.of_fsem Tryz.func67 rfl (Eq.mp (show _ = fsem P Tryz.f67 (fun k => []) _ R w from by kernel_rfl) h)
def impl_MoneyOk (m0 : ByteArray) (m1 : Bool) (a0 : Option Addr) (a1 a2 : Nat) (w : World) (R : Value -> World -> Prop) : Prop :=
 ∀ r wv, New w (.cells ⟨[.string m0, .bool m1, .slice a0 a1 a2]⟩ 33 (0, 0)) r wv ->
 ∃ t4, Loads P 9 ((⟨r, 0, none⟩ : Addr).add 0) (.string t4) wv /\ Calls P 86 ⟨[.string t4]⟩ wv fun e a3 =>
 ∃ t5, e = .returned (.bool t5) /\
 (t5 = true ->
 ∃ a4 a5 a6 a7, Loads P 31 ((⟨r, 0, none⟩ : Addr).add 1) (.agg #[.bool a4, .slice a5 a6 a7]) a3 /\ Calls P 158 ⟨[.agg #[.bool a4, .slice a5 a6 a7]]⟩ a3 fun a8 a9 =>
 ∃ t9, a8 = .returned (.bool t9) /\
 (t9 = true ->
 ∃ aa ab ac, Loads P 22 (((⟨r, 0, none⟩ : Addr).add 1).add 1) (.slice aa ab ac) a9 /\ R (.bool (decide ((((ab : Nat) : Int) : Int) <= 4))) a9) /\
 (t9 = false ->
 R (.bool false) a9)) /\
 (t5 = false ->
 (false = true ->
 ∃ ae af ag, Loads P 22 (((⟨r, 0, none⟩ : Addr).add 1).add 1) (.slice ae af ag) a3 /\ R (.bool (decide ((((af : Nat) : Int) : Int) <= 4))) a3) /\
 (false = false ->
 R (.bool false) a3))
theorem impl_MoneyOk_ret {m0 : ByteArray} {m1 : Bool} {a : Option Addr} {a0 a1 : Nat} (h : impl_MoneyOk m0 m1 a a0 a1 w R) : Ret P 69 [.agg #[.string m0, .bool m1, .slice a a0 a1]] w R := Ret.of_fsem Tryz.func69 rfl (Eq.mp (show _ = fsem P Tryz.f69 (fun k => []) _ R w from by kernel_rfl) h)
def spec_RatAdd_j0 (r a0 a1 : Nat) (W : World) (R : Value -> World -> Prop) : Prop :=
 ∃ a2, (∀ wv_5, Ext W.drew wv_5 -> Loads P 4 (((⟨r, 0, none⟩ : Addr).add 0).add 0) (.bool a2) wv_5) /\ ∃ a3 a4 a5, (∀ wv_6, Ext W.drew wv_6 -> Loads P 22 (((⟨r, 0, none⟩ : Addr).add 0).add 1) (.slice a3 a4 a5) wv_6) /\ ∃ a6 a7 a8, (∀ wv_7, Ext W.drew wv_7 -> Loads P 22 ((⟨a0, 0, none⟩ : Addr).add 2) (.slice a6 a7 a8) wv_7) /\ ∀ (ss : List (Option Nat)) (a9 : World), Fl [.cells ⟨[.bool false, .slice none 0 0]⟩ 31 (0, 0)] [none] W.drew ss a9 ->
 Calls P 175 ⟨[.slice a3 a4 a5, .slice a6 a7 a8]⟩ a9 fun aa ab =>
 ∃ ac ae af, aa = .returned (.slice ac ae af) /\
 Ext a9 ab /\ ∀ (ss_1 : List (Option Nat)) (ag : World), Fl [.cells ⟨[.bool false, .slice none 0 0]⟩ 31 (0, 0)] ss ab ss_1 ag ->
 Calls P 113 ⟨[.bool a2, .slice ac ae af]⟩ ag fun ah ai =>
 ∃ aj ak al am, ah = .returned (.agg #[.bool aj, .slice ak al am]) /\
 ∀ (ss_2 : List (Option Nat)) (an : World) (ao : Nat), Fl [.cells ⟨[.bool false, .slice none 0 0]⟩ 31 (0, 0)] ss_1 ai ss_2 an -> ss_2[0]? = some (some ao) ->
 ∃ wv_13, Stores P 31 ⟨ao, 0, none⟩ (.agg #[.bool aj, .slice ak al am]) an wv_13 /\
 ∃ ap, (∀ wv_14, Ext wv_13.drew wv_14 -> Loads P 4 (((⟨a0, 0, none⟩ : Addr).add 0).add 0) (.bool ap) wv_14) /\ ∃ aq ar au, (∀ wv_15, Ext wv_13.drew wv_15 -> Loads P 22 (((⟨a0, 0, none⟩ : Addr).add 0).add 1) (.slice aq ar au) wv_15) /\ ∃ av aw ax, (∀ wv_16, Ext wv_13.drew wv_16 -> Loads P 22 ((⟨r, 0, none⟩ : Addr).add 2) (.slice av aw ax) wv_16) /\ ∀ (ss_3 : List (Option Nat)) (ay : World), Fl [.cells ⟨[.bool false, .slice none 0 0]⟩ 31 (0, 0)] [none] wv_13.drew ss_3 ay ->
 Calls P 175 ⟨[.slice aq ar au, .slice av aw ax]⟩ ay fun az b0 =>
 ∃ b1 b2 b3, az = .returned (.slice b1 b2 b3) /\
 Ext ay b0 /\ ∀ (ss_4 : List (Option Nat)) (b4 : World), Fl [.cells ⟨[.bool false, .slice none 0 0]⟩ 31 (0, 0)] ss_3 b0 ss_4 b4 ->
 Calls P 113 ⟨[.bool ap, .slice b1 b2 b3]⟩ b4 fun b5 b6 =>
 ∃ b7 b8 b9 ba, b5 = .returned (.agg #[.bool b7, .slice b8 b9 ba]) /\
 ∀ (ss_5 : List (Option Nat)) (bb : World) (bc : Nat), Fl [.cells ⟨[.bool false, .slice none 0 0]⟩ 31 (0, 0)] ss_4 b6 ss_5 bb -> ss_5[0]? = some (some bc) ->
 ∃ wv_22, Stores P 31 ⟨bc, 0, none⟩ (.agg #[.bool b7, .slice b8 b9 ba]) bb wv_22 /\
 ∃ bd be bf bg, Loads P 31 ⟨ao, 0, none⟩ (.agg #[.bool bd, .slice be bf bg]) wv_22 /\ ∃ bh bi bj bk, Loads P 31 ⟨bc, 0, none⟩ (.agg #[.bool bh, .slice bi bj bk]) wv_22 /\ Calls P 176 ⟨[.agg #[.bool bd, .slice be bf bg], .agg #[.bool bh, .slice bi bj bk]]⟩ wv_22 fun bl bm =>
 ∃ bn bo bp bq, bl = .returned (.agg #[.bool bn, .slice bo bp bq]) /\
 ∀ br bs, New bm (.cells ⟨[.bool false, .slice none 0 0]⟩ 31 (0, 0)) br bs ->
 ∃ wv_25, Stores P 31 ⟨br, 0, none⟩ (.agg #[.bool bn, .slice bo bp bq]) bs wv_25 /\
 ∃ bt, (∀ wv_26, Ext wv_25.drew wv_26 -> Loads P 4 ((⟨br, 0, none⟩ : Addr).add 0) (.bool bt) wv_26) /\ ∃ bu bv bw, (∀ wv_27, Ext wv_25.drew wv_27 -> Loads P 22 ((⟨br, 0, none⟩ : Addr).add 1) (.slice bu bv bw) wv_27) /\ ∃ bx bz c0, (∀ wv_28, Ext wv_25.drew wv_28 -> Loads P 22 ((⟨r, 0, none⟩ : Addr).add 2) (.slice bx bz c0) wv_28) /\ ∃ c1 c2 c3, (∀ wv_29, Ext wv_25.drew wv_29 -> Loads P 22 ((⟨a0, 0, none⟩ : Addr).add 2) (.slice c1 c2 c3) wv_29) /\ Calls P 175 ⟨[.slice bx bz c0, .slice c1 c2 c3]⟩ wv_25.drew fun c4 c5 =>
 ∃ c6 c7 c8, c4 = .returned (.slice c6 c7 c8) /\
 Ext wv_25.drew c5 /\ Calls P 177 ⟨[.bool bt, .slice bu bv bw, .slice c6 c7 c8]⟩ c5 fun c9 ca =>
 ∃ cb cc cd ce cf cg ch ci, c9 = .returned (.tuple #[.agg #[.bool cb, .slice cc cd ce, .slice cf cg ch], .bool ci]) /\
 ∃ wv_32, Stores P 53 ⟨a1, 0, none⟩ (.agg #[.bool cb, .slice cc cd ce, .slice cf cg ch]) ca wv_32 /\
 ∃ r0_2 cj ck cl cm cn co, Loads P 53 ⟨a1, 0, none⟩ (.agg #[.bool r0_2, .slice cj ck cl, .slice cm cn co]) wv_32 /\ R (.tuple #[.agg #[.bool r0_2, .slice cj ck cl, .slice cm cn co], .bool ci]) wv_32
def spec_RatAdd (r0 : Bool) (a0 : Option Addr) (a1 a2 : Nat) (a3 : Option Addr) (a4 a5 : Nat) (s0 : Bool) (a6 : Option Addr) (a7 a8 : Nat) (a9 : Option Addr) (aa ab : Nat) (w : World) (R : Value -> World -> Prop) : Prop :=
 ∀ r wv, New w (.cells ⟨[.bool r0, .slice a0 a1 a2, .slice a3 a4 a5]⟩ 53 (0, 0)) r wv ->
 ∀ ac ae, New wv (.cells ⟨[.bool s0, .slice a6 a7 a8, .slice a9 aa ab]⟩ 53 (0, 0)) ac ae ->
 ∀ af ag, New ae (.cells ⟨[.bool false, .slice none 0 0, .slice none 0 0]⟩ 53 (0, 0)) af ag ->
 ∃ ah ai aj ak al am an, Loads P 53 ⟨r, 0, none⟩ (.agg #[.bool ah, .slice ai aj ak, .slice al am an]) ag /\ Calls P 174 ⟨[.agg #[.bool ah, .slice ai aj ak, .slice al am an]]⟩ ag fun e ao =>
 ∃ ap, e = .returned (.bool ap) /\
 ((!ap) = true ->
 (true = true ->
 ∃ wv_4, Stores P 53 ⟨af, 0, none⟩ (.agg #[.bool false, .slice none 0 0, .slice none 0 0]) ao wv_4 /\
 ∃ r0_1 aq ar au av aw ax, Loads P 53 ⟨af, 0, none⟩ (.agg #[.bool r0_1, .slice aq ar au, .slice av aw ax]) wv_4 /\ R (.tuple #[.agg #[.bool r0_1, .slice aq ar au, .slice av aw ax], .bool false]) wv_4) /\
 (true = false ->
 spec_RatAdd_j0 r ac af ao R)) /\
 ((!ap) = false ->
 ∃ ay az b0 b1 b2 b3 b4, Loads P 53 ⟨ac, 0, none⟩ (.agg #[.bool ay, .slice az b0 b1, .slice b2 b3 b4]) ao /\ Calls P 174 ⟨[.agg #[.bool ay, .slice az b0 b1, .slice b2 b3 b4]]⟩ ao fun b5 b6 =>
 ∃ b7, b5 = .returned (.bool b7) /\
 ((!b7) = true ->
 ∃ wv_34, Stores P 53 ⟨af, 0, none⟩ (.agg #[.bool false, .slice none 0 0, .slice none 0 0]) b6 wv_34 /\
 ∃ r0_3 b8 b9 ba bb bc bd, Loads P 53 ⟨af, 0, none⟩ (.agg #[.bool r0_3, .slice b8 b9 ba, .slice bb bc bd]) wv_34 /\ R (.tuple #[.agg #[.bool r0_3, .slice b8 b9 ba, .slice bb bc bd], .bool false]) wv_34) /\
 ((!b7) = false ->
 spec_RatAdd_j0 r ac af b6 R))
theorem spec_RatAdd_ret {r0 : Bool} {a : Option Addr} {a0 a1 : Nat} {a2 : Option Addr} {a3 a4 : Nat} {s0 : Bool} {a5 : Option Addr} {a6 a7 : Nat} {a8 : Option Addr} {a9 b : Nat} (h : spec_RatAdd r0 a a0 a1 a2 a3 a4 s0 a5 a6 a7 a8 a9 b w R) : Ret P 77 [.agg #[.bool r0, .slice a a0 a1, .slice a2 a3 a4], .agg #[.bool s0, .slice a5 a6 a7, .slice a8 a9 b]] w R := Ret.of_fsem Tryz.func77 rfl (Eq.mp (show _ = fsem P Tryz.f77 (fun k => []) _ R w from by kernel_rfl) h)
def spec_CurKnown (code : ByteArray) (w : World) (R : Value -> World -> Prop) : Prop :=
 Calls P 179 ⟨[.string code]⟩ w fun e wv =>
 ∃ a0 a1 a2 a3, e = .returned (.agg #[.string a0, .string a1, .int .i64 a2, .int .i64 a3]) /\
 R (.bool (decide (a0 ≠ (S [])))) wv
theorem spec_CurKnown_ret {a : ByteArray} (h : spec_CurKnown a w R) : Ret P 80 [.string a] w R := Ret.of_fsem Tryz.func80 rfl (Eq.mp (show _ = fsem P Tryz.f80 (fun k => []) _ R w from by kernel_rfl) h)
def impl_RatOk_j0 (r : Nat) (W : World) (R : Value -> World -> Prop) : Prop :=
 ∃ a0 a1 a2, Loads P 22 (((⟨r, 0, none⟩ : Addr).add 0).add 1) (.slice a0 a1 a2) W /\ ∃ a3 a4 a5, Loads P 22 ((⟨r, 0, none⟩ : Addr).add 2) (.slice a3 a4 a5) W /\ Calls P 181 ⟨[.slice a0 a1 a2, .slice a3 a4 a5]⟩ W fun a6 a7 =>
 ∃ a8 a9 aa, a6 = .returned (.slice a8 a9 aa) /\
 ((decide ((((a9 : Nat) : Int) : Int) = 1)) = true ->
 (0 <= (0 : Int) /\ (0 : Int) < (a9 : Nat)) /\ ptrS a8 fun ad => ∃ ab, Loads P 3 (ad.add (0 * 1)) (.int .i64 ab) a7 /\ R (.bool (decide ((ab : Int) = 1))) a7) /\
 ((decide ((((a9 : Nat) : Int) : Int) = 1)) = false ->
 R (.bool false) a7)
def impl_RatOk (r0 : Bool) (a0 : Option Addr) (a1 a2 : Nat) (a3 : Option Addr) (a4 a5 : Nat) (w : World) (R : Value -> World -> Prop) : Prop :=
 ∀ r wv, New w (.cells ⟨[.bool r0, .slice a0 a1 a2, .slice a3 a4 a5]⟩ 53 (0, 0)) r wv ->
 ∃ a6 a7 a8 a9, Loads P 31 ((⟨r, 0, none⟩ : Addr).add 0) (.agg #[.bool a6, .slice a7 a8 a9]) wv /\ Calls P 158 ⟨[.agg #[.bool a6, .slice a7 a8 a9]]⟩ wv fun e aa =>
 ∃ t6, e = .returned (.bool t6) /\
 ((!t6) = true ->
 (true = true ->
 (true = true ->
 (true = true ->
 (true = true ->
 R (.bool false) aa) /\
 (true = false ->
 impl_RatOk_j0 r aa R)) /\
 (true = false ->
 ∃ ab ac ae, Loads P 22 (((⟨r, 0, none⟩ : Addr).add 0).add 1) (.slice ab ac ae) aa /\ ((decide ((18 : Int) < ((ac : Nat) : Int))) = true ->
 R (.bool false) aa) /\
 ((decide ((18 : Int) < ((ac : Nat) : Int))) = false ->
 impl_RatOk_j0 r aa R))) /\
 (true = false ->
 ∃ af ag ah, Loads P 22 ((⟨r, 0, none⟩ : Addr).add 2) (.slice af ag ah) aa /\ ((decide ((18 : Int) < ((ag : Nat) : Int))) = true ->
 (true = true ->
 R (.bool false) aa) /\
 (true = false ->
 impl_RatOk_j0 r aa R)) /\
 ((decide ((18 : Int) < ((ag : Nat) : Int))) = false ->
 ∃ ai aj ak, Loads P 22 (((⟨r, 0, none⟩ : Addr).add 0).add 1) (.slice ai aj ak) aa /\ ((decide ((18 : Int) < ((aj : Nat) : Int))) = true ->
 R (.bool false) aa) /\
 ((decide ((18 : Int) < ((aj : Nat) : Int))) = false ->
 impl_RatOk_j0 r aa R)))) /\
 (true = false ->
 ∃ al am an, Loads P 22 ((⟨r, 0, none⟩ : Addr).add 2) (.slice al am an) aa /\ ((decide ((((am : Nat) : Int) : Int) = 0)) = true ->
 (true = true ->
 (true = true ->
 R (.bool false) aa) /\
 (true = false ->
 impl_RatOk_j0 r aa R)) /\
 (true = false ->
 ∃ ao ap aq, Loads P 22 (((⟨r, 0, none⟩ : Addr).add 0).add 1) (.slice ao ap aq) aa /\ ((decide ((18 : Int) < ((ap : Nat) : Int))) = true ->
 R (.bool false) aa) /\
 ((decide ((18 : Int) < ((ap : Nat) : Int))) = false ->
 impl_RatOk_j0 r aa R))) /\
 ((decide ((((am : Nat) : Int) : Int) = 0)) = false ->
 ∃ ar au av, Loads P 22 ((⟨r, 0, none⟩ : Addr).add 2) (.slice ar au av) aa /\ ((decide ((18 : Int) < ((au : Nat) : Int))) = true ->
 (true = true ->
 R (.bool false) aa) /\
 (true = false ->
 impl_RatOk_j0 r aa R)) /\
 ((decide ((18 : Int) < ((au : Nat) : Int))) = false ->
 ∃ aw ax ay, Loads P 22 (((⟨r, 0, none⟩ : Addr).add 0).add 1) (.slice aw ax ay) aa /\ ((decide ((18 : Int) < ((ax : Nat) : Int))) = true ->
 R (.bool false) aa) /\
 ((decide ((18 : Int) < ((ax : Nat) : Int))) = false ->
 impl_RatOk_j0 r aa R))))) /\
 ((!t6) = false ->
 ∃ az b0 b1, Loads P 22 ((⟨r, 0, none⟩ : Addr).add 2) (.slice az b0 b1) aa /\ Calls P 180 ⟨[.slice az b0 b1]⟩ aa fun b2 b3 =>
 ∃ b4, b2 = .returned (.bool b4) /\
 ((!b4) = true ->
 (true = true ->
 (true = true ->
 (true = true ->
 R (.bool false) b3) /\
 (true = false ->
 impl_RatOk_j0 r b3 R)) /\
 (true = false ->
 ∃ b5 b6 b7, Loads P 22 (((⟨r, 0, none⟩ : Addr).add 0).add 1) (.slice b5 b6 b7) b3 /\ ((decide ((18 : Int) < ((b6 : Nat) : Int))) = true ->
 R (.bool false) b3) /\
 ((decide ((18 : Int) < ((b6 : Nat) : Int))) = false ->
 impl_RatOk_j0 r b3 R))) /\
 (true = false ->
 ∃ b8 b9 ba, Loads P 22 ((⟨r, 0, none⟩ : Addr).add 2) (.slice b8 b9 ba) b3 /\ ((decide ((18 : Int) < ((b9 : Nat) : Int))) = true ->
 (true = true ->
 R (.bool false) b3) /\
 (true = false ->
 impl_RatOk_j0 r b3 R)) /\
 ((decide ((18 : Int) < ((b9 : Nat) : Int))) = false ->
 ∃ bb bc bd, Loads P 22 (((⟨r, 0, none⟩ : Addr).add 0).add 1) (.slice bb bc bd) b3 /\ ((decide ((18 : Int) < ((bc : Nat) : Int))) = true ->
 R (.bool false) b3) /\
 ((decide ((18 : Int) < ((bc : Nat) : Int))) = false ->
 impl_RatOk_j0 r b3 R)))) /\
 ((!b4) = false ->
 ∃ be bf bg, Loads P 22 ((⟨r, 0, none⟩ : Addr).add 2) (.slice be bf bg) b3 /\ ((decide ((((bf : Nat) : Int) : Int) = 0)) = true ->
 (true = true ->
 (true = true ->
 R (.bool false) b3) /\
 (true = false ->
 impl_RatOk_j0 r b3 R)) /\
 (true = false ->
 ∃ bh bi bj, Loads P 22 (((⟨r, 0, none⟩ : Addr).add 0).add 1) (.slice bh bi bj) b3 /\ ((decide ((18 : Int) < ((bi : Nat) : Int))) = true ->
 R (.bool false) b3) /\
 ((decide ((18 : Int) < ((bi : Nat) : Int))) = false ->
 impl_RatOk_j0 r b3 R))) /\
 ((decide ((((bf : Nat) : Int) : Int) = 0)) = false ->
 ∃ bk bl bm, Loads P 22 ((⟨r, 0, none⟩ : Addr).add 2) (.slice bk bl bm) b3 /\ ((decide ((18 : Int) < ((bl : Nat) : Int))) = true ->
 (true = true ->
 R (.bool false) b3) /\
 (true = false ->
 impl_RatOk_j0 r b3 R)) /\
 ((decide ((18 : Int) < ((bl : Nat) : Int))) = false ->
 ∃ bn bo bp, Loads P 22 (((⟨r, 0, none⟩ : Addr).add 0).add 1) (.slice bn bo bp) b3 /\ ((decide ((18 : Int) < ((bo : Nat) : Int))) = true ->
 R (.bool false) b3) /\
 ((decide ((18 : Int) < ((bo : Nat) : Int))) = false ->
 impl_RatOk_j0 r b3 R)))))
theorem impl_RatOk_ret {r0 : Bool} {a : Option Addr} {a0 a1 : Nat} {a2 : Option Addr} {a3 a4 : Nat} (h : impl_RatOk r0 a a0 a1 a2 a3 a4 w R) : Ret P 85 [.agg #[.bool r0, .slice a a0 a1, .slice a2 a3 a4]] w R := Ret.of_fsem Tryz.func85 rfl (Eq.mp (show _ = fsem P Tryz.f85 (fun k => []) _ R w from by kernel_rfl) h)
def impl_CurKnown (code : ByteArray) (w : World) (R : Value -> World -> Prop) : Prop :=
 Calls P 182 ⟨[.string code]⟩ w fun e wv =>
 ∃ a0 a1 a2 a3 t7, e = .returned (.tuple #[.agg #[.string a0, .string a1, .int .i64 a2, .int .i64 a3], .bool t7]) /\
 ∀ r a4, New wv (.cells ⟨[.string ByteArray.empty, .string ByteArray.empty, .int .i64 0, .int .i64 0]⟩ 210 (0, 0)) r a4 ->
 ∃ wv_2, Stores P 210 ⟨r, 0, none⟩ (.agg #[.string a0, .string a1, .int .i64 a2, .int .i64 a3]) a4 wv_2 /\
 R (.bool t7) wv_2
theorem impl_CurKnown_ret {a : ByteArray} (h : impl_CurKnown a w R) : Ret P 86 [.string a] w R := Ret.of_fsem Tryz.func86 rfl (Eq.mp (show _ = fsem P Tryz.f86 (fun k => []) _ R w from by kernel_rfl) h)
def impl_RatAdd (r0 : Bool) (a0 : Option Addr) (a1 a2 : Nat) (a3 : Option Addr) (a4 a5 : Nat) (s0 : Bool) (a6 : Option Addr) (a7 a8 : Nat) (a9 : Option Addr) (aa ab : Nat) (w : World) (R : Value -> World -> Prop) : Prop :=
 ∀ r wv, New w (.cells ⟨[.bool r0, .slice a0 a1 a2, .slice a3 a4 a5]⟩ 53 (0, 0)) r wv ->
 ∀ ac ae, New wv (.cells ⟨[.bool s0, .slice a6 a7 a8, .slice a9 aa ab]⟩ 53 (0, 0)) ac ae ->
 ∀ af ag, New ae (.cells ⟨[.bool false, .slice none 0 0, .slice none 0 0]⟩ 53 (0, 0)) af ag ->
 ∃ ah ai aj ak al am an, Loads P 53 ⟨r, 0, none⟩ (.agg #[.bool ah, .slice ai aj ak, .slice al am an]) ag /\ ∃ ao ap aq ar au av aw, Loads P 53 ⟨ac, 0, none⟩ (.agg #[.bool ao, .slice ap aq ar, .slice au av aw]) ag /\ Calls P 183 ⟨[.agg #[.bool ah, .slice ai aj ak, .slice al am an], .agg #[.bool ao, .slice ap aq ar, .slice au av aw]]⟩ ag fun e ax =>
 ∃ ay, e = .returned (.bool ay) /\
 ((!ay) = true ->
 ∃ wv_4, Stores P 53 ⟨af, 0, none⟩ (.agg #[.bool false, .slice none 0 0, .slice none 0 0]) ax wv_4 /\
 ∃ r0_1 az b0 b1 b2 b3 b4, Loads P 53 ⟨af, 0, none⟩ (.agg #[.bool r0_1, .slice az b0 b1, .slice b2 b3 b4]) wv_4 /\ R (.tuple #[.agg #[.bool r0_1, .slice az b0 b1, .slice b2 b3 b4], .bool false]) wv_4) /\
 ((!ay) = false ->
 ∃ b5 b6 b7 b8 b9 ba bb, (∀ wv_5, Ext ax.drew wv_5 -> Loads P 53 ⟨r, 0, none⟩ (.agg #[.bool b5, .slice b6 b7 b8, .slice b9 ba bb]) wv_5) /\ ∃ bc bd be bf bg bh bi, (∀ wv_6, Ext ax.drew wv_6 -> Loads P 53 ⟨ac, 0, none⟩ (.agg #[.bool bc, .slice bd be bf, .slice bg bh bi]) wv_6) /\ ∃ bj bk bl, (∀ wv_7, Ext ax.drew.drew wv_7 -> Loads P 22 ((⟨ac, 0, none⟩ : Addr).add 2) (.slice bj bk bl) wv_7) /\ CallW P (.func (.func 184) #[.agg #[.bool b5, .slice b6 b7 b8, .slice b9 ba bb]] #[]) [.slice bj bk bl] ax.drew.drew fun bm bn =>
 ∃ bo bp bq br, bm = .returned (.agg #[.bool bo, .slice bp bq br]) /\
 Ext ax.drew.drew bn /\ ∃ bs bt bu, (∀ wv_9, Ext ax.drew.drew wv_9 -> Loads P 22 ((⟨r, 0, none⟩ : Addr).add 2) (.slice bs bt bu) wv_9) /\ CallW P (.func (.func 184) #[.agg #[.bool bc, .slice bd be bf, .slice bg bh bi]] #[]) [.slice bs bt bu] bn fun bv bw =>
 ∃ bx bz c0 c1, bv = .returned (.agg #[.bool bx, .slice bz c0 c1]) /\
 Ext bn bw /\ Calls P 121 ⟨[.agg #[.bool bo, .slice bp bq br], .agg #[.bool bx, .slice bz c0 c1]]⟩ bw fun c2 c3 =>
 ∃ c4 c5 c6 c7, c2 = .returned (.agg #[.bool c4, .slice c5 c6 c7]) /\
 Ext bw c3 /\ ∃ c8 c9 ca, (∀ wv_12, Ext ax.drew.drew wv_12 -> Loads P 22 ((⟨r, 0, none⟩ : Addr).add 2) (.slice c8 c9 ca) wv_12) /\ ∃ cb cc cd, (∀ wv_13, Ext ax.drew.drew wv_13 -> Loads P 22 ((⟨ac, 0, none⟩ : Addr).add 2) (.slice cb cc cd) wv_13) /\ Calls P 165 ⟨[.slice c8 c9 ca, .slice cb cc cd]⟩ c3 fun ce cf =>
 ∃ cg ch ci, ce = .returned (.slice cg ch ci) /\
 Calls P 185 ⟨[.agg #[.bool c4, .slice c5 c6 c7], .slice cg ch ci]⟩ cf fun cj ck =>
 ∃ cl cm cn co cp cq cr cs, cj = .returned (.tuple #[.agg #[.bool cl, .slice cm cn co, .slice cp cq cr], .bool cs]) /\
 ∃ wv_16, Stores P 53 ⟨af, 0, none⟩ (.agg #[.bool cl, .slice cm cn co, .slice cp cq cr]) ck wv_16 /\
 ∃ r0_2 ct cu cv cw cx cy, Loads P 53 ⟨af, 0, none⟩ (.agg #[.bool r0_2, .slice ct cu cv, .slice cw cx cy]) wv_16 /\ R (.tuple #[.agg #[.bool r0_2, .slice ct cu cv, .slice cw cx cy], .bool cs]) wv_16)
theorem impl_RatAdd_ret {r0 : Bool} {a : Option Addr} {a0 a1 : Nat} {a2 : Option Addr} {a3 a4 : Nat} {s0 : Bool} {a5 : Option Addr} {a6 a7 : Nat} {a8 : Option Addr} {a9 b : Nat} (h : impl_RatAdd r0 a a0 a1 a2 a3 a4 s0 a5 a6 a7 a8 a9 b w R) : Ret P 87 [.agg #[.bool r0, .slice a a0 a1, .slice a2 a3 a4], .agg #[.bool s0, .slice a5 a6 a7, .slice a8 a9 b]] w R := Ret.of_fsem Tryz.func87 rfl (Eq.mp (show _ = fsem P Tryz.f87 (fun k => []) _ R w from by kernel_rfl) h)
end Go.Proofs.YtfehpaekbbmkcaaGreatDoor
namespace Go.Proofs.YtfehpaekbbmkcaaGreatDoor
variable {w : World} {R : Value -> World -> Prop}
open Go Go.Proofs.YtfehpaekbbmkcaaGreatDoor.Sx
set_option maxRecDepth 100000
def spec_TaxRateOk (r0 : Bool) (a0 : Option Addr) (a1 a2 : Nat) (r2 : Int) (w : World) (R : Value -> World -> Prop) : Prop :=
 ∀ r wv, New w (.cells ⟨[.bool r0, .slice a0 a1 a2, .int .i64 r2]⟩ 63 (0, 0)) r wv ->
 ∃ a3 a4 a5 a6 a7, (∀ wv_1, Ext wv.drew wv_1 -> Loads P 63 ⟨r, 0, none⟩ (.agg #[.bool a3, .slice a4 a5 a6, .int .i64 a7]) wv_1) /\ Calls P 205 ⟨[.agg #[.bool a3, .slice a4 a5 a6, .int .i64 a7]]⟩ wv.drew fun e a8 =>
 ∃ t4, e = .returned (.bool t4) /\
 (t4 = true ->
 ∃ t8, (∀ wv_3, Ext a8 wv_3 -> Loads P 4 (((⟨r, 0, none⟩ : Addr).add 0).add 0) (.bool t8) wv_3) /\ ((!t8) = true ->
 ∃ a9 aa ab, (∀ wv_4, Ext a8 wv_4 -> Loads P 22 (((⟨r, 0, none⟩ : Addr).add 0).add 1) (.slice a9 aa ab) wv_4) /\ ((decide ((((aa : Nat) : Int) : Int) <= 1)) = true ->
 ∃ ac ae af ag ah, (∀ wv_5, Ext a8 wv_5 -> Loads P 63 ⟨r, 0, none⟩ (.agg #[.bool ac, .slice ae af ag, .int .i64 ah]) wv_5) /\ Calls P 128 ⟨[.int .i64 1]⟩ a8 fun ai aj =>
 ∃ ak al am an, ai = .returned (.agg #[.bool ak, .slice al am an]) /\
 Ext a8 aj /\ Calls P 111 ⟨[.agg #[.bool ac, .slice ae af ag, .int .i64 ah], .agg #[.bool ak, .slice al am an, .int .i64 0]]⟩ aj fun ao ap =>
 ∃ aq, ao = .returned (.int .i64 aq) /\
 R (.bool (decide ((aq : Int) <= 0))) ap) /\
 ((decide ((((aa : Nat) : Int) : Int) <= 1)) = false ->
 R (.bool false) a8)) /\
 ((!t8) = false ->
 (false = true ->
 ∃ ar au av aw ax, (∀ wv_8, Ext a8 wv_8 -> Loads P 63 ⟨r, 0, none⟩ (.agg #[.bool ar, .slice au av aw, .int .i64 ax]) wv_8) /\ Calls P 128 ⟨[.int .i64 1]⟩ a8 fun ay az =>
 ∃ b0 b1 b2 b3, ay = .returned (.agg #[.bool b0, .slice b1 b2 b3]) /\
 Ext a8 az /\ Calls P 111 ⟨[.agg #[.bool ar, .slice au av aw, .int .i64 ax], .agg #[.bool b0, .slice b1 b2 b3, .int .i64 0]]⟩ az fun b4 b5 =>
 ∃ b6, b4 = .returned (.int .i64 b6) /\
 R (.bool (decide ((b6 : Int) <= 0))) b5) /\
 (false = false ->
 R (.bool false) a8))) /\
 (t4 = false ->
 (false = true ->
 ∃ b7 b8 b9, (∀ wv_11, Ext a8 wv_11 -> Loads P 22 (((⟨r, 0, none⟩ : Addr).add 0).add 1) (.slice b7 b8 b9) wv_11) /\ ((decide ((((b8 : Nat) : Int) : Int) <= 1)) = true ->
 ∃ ba bb bc bd be, (∀ wv_12, Ext a8 wv_12 -> Loads P 63 ⟨r, 0, none⟩ (.agg #[.bool ba, .slice bb bc bd, .int .i64 be]) wv_12) /\ Calls P 128 ⟨[.int .i64 1]⟩ a8 fun bf bg =>
 ∃ bh bi bj bk, bf = .returned (.agg #[.bool bh, .slice bi bj bk]) /\
 Ext a8 bg /\ Calls P 111 ⟨[.agg #[.bool ba, .slice bb bc bd, .int .i64 be], .agg #[.bool bh, .slice bi bj bk, .int .i64 0]]⟩ bg fun bl bm =>
 ∃ bn, bl = .returned (.int .i64 bn) /\
 R (.bool (decide ((bn : Int) <= 0))) bm) /\
 ((decide ((((b8 : Nat) : Int) : Int) <= 1)) = false ->
 R (.bool false) a8)) /\
 (false = false ->
 (false = true ->
 ∃ bo bp bq br bs, (∀ wv_15, Ext a8 wv_15 -> Loads P 63 ⟨r, 0, none⟩ (.agg #[.bool bo, .slice bp bq br, .int .i64 bs]) wv_15) /\ Calls P 128 ⟨[.int .i64 1]⟩ a8 fun bt bu =>
 ∃ bv bw bx bz, bt = .returned (.agg #[.bool bv, .slice bw bx bz]) /\
 Ext a8 bu /\ Calls P 111 ⟨[.agg #[.bool bo, .slice bp bq br, .int .i64 bs], .agg #[.bool bv, .slice bw bx bz, .int .i64 0]]⟩ bu fun c0 c1 =>
 ∃ c2, c0 = .returned (.int .i64 c2) /\
 R (.bool (decide ((c2 : Int) <= 0))) c1) /\
 (false = false ->
 R (.bool false) a8)))
theorem spec_TaxRateOk_ret {r0 : Bool} {a : Option Addr} {a0 a1 : Nat} {r2 : Int} (h : spec_TaxRateOk r0 a a0 a1 r2 w R) : Ret P 110 [.agg #[.bool r0, .slice a a0 a1, .int .i64 r2]] w R := Ret.of_fsem Tryz.func110 rfl (Eq.mp (show _ = fsem P Tryz.f110 (fun k => []) _ R w from by kernel_rfl) h)
def spec_DecCmp_j0 (r a0 : Nat) (W : World) (R : Value -> World -> Prop) : Prop :=
 ∃ a1 a2 a3 a4 a5, Loads P 63 ⟨r, 0, none⟩ (.agg #[.bool a1, .slice a2 a3 a4, .int .i64 a5]) W /\ ∃ a6 a7 a8 a9 aa, Loads P 63 ⟨a0, 0, none⟩ (.agg #[.bool a6, .slice a7 a8 a9, .int .i64 aa]) W /\ Calls P 206 ⟨[.agg #[.bool a1, .slice a2 a3 a4, .int .i64 a5], .agg #[.bool a6, .slice a7 a8 a9, .int .i64 aa]]⟩ W fun ab ac =>
 ∃ ae af ag ah ai aj ak al am, ab = .returned (.tuple #[.agg #[.bool ae, .slice af ag ah], .agg #[.bool ai, .slice aj ak al], .int .i64 am]) /\
 ∀ an ao, New ac (.cells ⟨[.bool false, .slice none 0 0]⟩ 31 (0, 0)) an ao ->
 ∀ ap aq, New ao (.cells ⟨[.bool false, .slice none 0 0]⟩ 31 (0, 0)) ap aq ->
 ∃ wv_6, Stores P 31 ⟨an, 0, none⟩ (.agg #[.bool ae, .slice af ag ah]) aq wv_6 /\
 ∃ wv_7, Stores P 31 ⟨ap, 0, none⟩ (.agg #[.bool ai, .slice aj ak al]) wv_6 wv_7 /\
 ∃ ar au av aw, Loads P 31 ⟨an, 0, none⟩ (.agg #[.bool ar, .slice au av aw]) wv_7 /\ ∃ ax ay az b0, Loads P 31 ⟨ap, 0, none⟩ (.agg #[.bool ax, .slice ay az b0]) wv_7 /\ Calls P 129 ⟨[.agg #[.bool ar, .slice au av aw], .agg #[.bool ax, .slice ay az b0]]⟩ wv_7 fun b1 b2 =>
 ∃ b3, b1 = .returned (.int .i64 b3) /\
 R (.int .i64 b3) b2
def spec_DecCmp (d0 : Bool) (a0 : Option Addr) (a1 a2 : Nat) (d2 : Int) (e0 : Bool) (a3 : Option Addr) (a4 a5 : Nat) (e2 : Int) (w : World) (R : Value -> World -> Prop) : Prop :=
 ∀ r wv, New w (.cells ⟨[.bool d0, .slice a0 a1 a2, .int .i64 d2]⟩ 63 (0, 0)) r wv ->
 ∀ a6 a7, New wv (.cells ⟨[.bool e0, .slice a3 a4 a5, .int .i64 e2]⟩ 63 (0, 0)) a6 a7 ->
 ∃ a8 a9 aa ab ac, Loads P 63 ⟨r, 0, none⟩ (.agg #[.bool a8, .slice a9 aa ab, .int .i64 ac]) a7 /\ Calls P 205 ⟨[.agg #[.bool a8, .slice a9 aa ab, .int .i64 ac]]⟩ a7 fun e ae =>
 ∃ t9, e = .returned (.bool t9) /\
 ((!t9) = true ->
 (true = true ->
 R (.int .i64 0) ae) /\
 (true = false ->
 spec_DecCmp_j0 r a6 ae R)) /\
 ((!t9) = false ->
 ∃ af ag ah ai aj, Loads P 63 ⟨a6, 0, none⟩ (.agg #[.bool af, .slice ag ah ai, .int .i64 aj]) ae /\ Calls P 205 ⟨[.agg #[.bool af, .slice ag ah ai, .int .i64 aj]]⟩ ae fun ak al =>
 ∃ am, ak = .returned (.bool am) /\
 ((!am) = true ->
 R (.int .i64 0) al) /\
 ((!am) = false ->
 spec_DecCmp_j0 r a6 al R))
theorem spec_DecCmp_ret {d0 : Bool} {a : Option Addr} {a0 a1 : Nat} {d2 : Int} {e0 : Bool} {a2 : Option Addr} {a3 a4 : Nat} {e2 : Int} (h : spec_DecCmp d0 a a0 a1 d2 e0 a2 a3 a4 e2 w R) : Ret P 111 [.agg #[.bool d0, .slice a a0 a1, .int .i64 d2], .agg #[.bool e0, .slice a2 a3 a4, .int .i64 e2]] w R := Ret.of_fsem Tryz.func111 rfl (Eq.mp (show _ = fsem P Tryz.f111 (fun k => []) _ R w from by kernel_rfl) h)
def spec_IntAdd (x0 : Bool) (a0 : Option Addr) (a1 a2 : Nat) (y0 : Bool) (a3 : Option Addr) (a4 a5 : Nat) (w : World) (R : Value -> World -> Prop) : Prop :=
 ∀ r wv, New w (.cells ⟨[.bool x0, .slice a0 a1 a2]⟩ 31 (0, 0)) r wv ->
 ∀ a6 a7, New wv (.cells ⟨[.bool y0, .slice a3 a4 a5]⟩ 31 (0, 0)) a6 a7 ->
 ∀ a8 a9, New a7 (.cells ⟨[.bool false, .slice none 0 0]⟩ 31 (0, 0)) a8 a9 ->
 ∃ aa ab ac ae, Loads P 31 ⟨r, 0, none⟩ (.agg #[.bool aa, .slice ab ac ae]) a9 /\ Calls P 151 ⟨[.agg #[.bool aa, .slice ab ac ae]]⟩ a9 fun e af =>
 ∃ t6, e = .returned (.bool t6) /\
 ((!t6) = true ->
 (true = true ->
 ∃ wv_4, Stores P 31 ⟨a8, 0, none⟩ (.agg #[.bool false, .slice none 0 0]) af wv_4 /\
 ∃ r0 ag ah ai, Loads P 31 ⟨a8, 0, none⟩ (.agg #[.bool r0, .slice ag ah ai]) wv_4 /\ R (.agg #[.bool r0, .slice ag ah ai]) wv_4) /\
 (true = false ->
 ∃ aj ak al am, Loads P 31 ⟨r, 0, none⟩ (.agg #[.bool aj, .slice ak al am]) af /\ ∃ an ao ap aq, Loads P 31 ⟨a6, 0, none⟩ (.agg #[.bool an, .slice ao ap aq]) af /\ Calls P 176 ⟨[.agg #[.bool aj, .slice ak al am], .agg #[.bool an, .slice ao ap aq]]⟩ af fun ar au =>
 ∃ av aw ax ay, ar = .returned (.agg #[.bool av, .slice aw ax ay]) /\
 ∃ wv_6, Stores P 31 ⟨a8, 0, none⟩ (.agg #[.bool av, .slice aw ax ay]) au wv_6 /\
 ∃ r0_1 az b0 b1, Loads P 31 ⟨a8, 0, none⟩ (.agg #[.bool r0_1, .slice az b0 b1]) wv_6 /\ R (.agg #[.bool r0_1, .slice az b0 b1]) wv_6)) /\
 ((!t6) = false ->
 ∃ b2 b3 b4 b5, Loads P 31 ⟨a6, 0, none⟩ (.agg #[.bool b2, .slice b3 b4 b5]) af /\ Calls P 151 ⟨[.agg #[.bool b2, .slice b3 b4 b5]]⟩ af fun b6 b7 =>
 ∃ b8, b6 = .returned (.bool b8) /\
 ((!b8) = true ->
 ∃ wv_8, Stores P 31 ⟨a8, 0, none⟩ (.agg #[.bool false, .slice none 0 0]) b7 wv_8 /\
 ∃ r0_2 b9 ba bb, Loads P 31 ⟨a8, 0, none⟩ (.agg #[.bool r0_2, .slice b9 ba bb]) wv_8 /\ R (.agg #[.bool r0_2, .slice b9 ba bb]) wv_8) /\
 ((!b8) = false ->
 ∃ bc bd be bf, Loads P 31 ⟨r, 0, none⟩ (.agg #[.bool bc, .slice bd be bf]) b7 /\ ∃ bg bh bi bj, Loads P 31 ⟨a6, 0, none⟩ (.agg #[.bool bg, .slice bh bi bj]) b7 /\ Calls P 176 ⟨[.agg #[.bool bc, .slice bd be bf], .agg #[.bool bg, .slice bh bi bj]]⟩ b7 fun bk bl =>
 ∃ bm bn bo bp, bk = .returned (.agg #[.bool bm, .slice bn bo bp]) /\
 ∃ wv_10, Stores P 31 ⟨a8, 0, none⟩ (.agg #[.bool bm, .slice bn bo bp]) bl wv_10 /\
 ∃ r0_3 bq br bs, Loads P 31 ⟨a8, 0, none⟩ (.agg #[.bool r0_3, .slice bq br bs]) wv_10 /\ R (.agg #[.bool r0_3, .slice bq br bs]) wv_10))
theorem spec_IntAdd_ret {x0 : Bool} {a : Option Addr} {a0 a1 : Nat} {y0 : Bool} {a2 : Option Addr} {a3 a4 : Nat} (h : spec_IntAdd x0 a a0 a1 y0 a2 a3 a4 w R) : Ret P 112 [.agg #[.bool x0, .slice a a0 a1], .agg #[.bool y0, .slice a2 a3 a4]] w R := Ret.of_fsem Tryz.func112 rfl (Eq.mp (show _ = fsem P Tryz.f112 (fun k => []) _ R w from by kernel_rfl) h)
def spec_l04Make (neg : Bool) (a0 : Option Addr) (a1 a2 : Nat) (w : World) (R : Value -> World -> Prop) : Prop :=
 ∀ r wv, New w (.cells ⟨[.bool false, .slice none 0 0]⟩ 31 (0, 0)) r wv ->
 Calls P 207 ⟨[.slice a0 a1 a2]⟩ wv fun e a3 =>
 ∃ a4 a5 a6, e = .returned (.slice a4 a5 a6) /\
 (neg = true ->
 ∀ a7 a8, New a3 (.cells ⟨[]⟩ 3 (0, 0)) a7 a8 ->
 ∃ a9 aa ab ac, Appends P [22, 22] [(.slice (some ⟨a7, 0, none⟩) 0 0), .slice a4 a5 a6] (.slice a9 aa ab) a8 ac /\
 ∃ wv_4, Stores P 31 ⟨r, 0, none⟩ (.agg #[(.bool (decide ((0 : Int) < ((a5 : Nat) : Int)))), .slice a9 aa ab]) ac wv_4 /\
 ∃ r0 ae af ag, Loads P 31 ⟨r, 0, none⟩ (.agg #[.bool r0, .slice ae af ag]) wv_4 /\ R (.agg #[.bool r0, .slice ae af ag]) wv_4) /\
 (neg = false ->
 ∀ ah ai, New a3 (.cells ⟨[]⟩ 3 (0, 0)) ah ai ->
 ∃ aj ak al am, Appends P [22, 22] [(.slice (some ⟨ah, 0, none⟩) 0 0), .slice a4 a5 a6] (.slice aj ak al) ai am /\
 ∃ wv_7, Stores P 31 ⟨r, 0, none⟩ (.agg #[.bool false, .slice aj ak al]) am wv_7 /\
 ∃ r0_1 an ao ap, Loads P 31 ⟨r, 0, none⟩ (.agg #[.bool r0_1, .slice an ao ap]) wv_7 /\ R (.agg #[.bool r0_1, .slice an ao ap]) wv_7)
theorem spec_l04Make_ret {a : Bool} {a0 : Option Addr} {a1 a2 : Nat} (h : spec_l04Make a a0 a1 a2 w R) : Ret P 113 [.bool a, .slice a0 a1 a2] w R := Ret.of_fsem Tryz.func113 rfl (Eq.mp (show _ = fsem P Tryz.f113 (fun k => []) _ R w from by kernel_rfl) h)
def spec_TaxOn_j0 (mode : Int) (r a0 : Nat) (a1 a2 : Nat) (W : World) (R : Value -> World -> Prop) : Prop :=
 ∃ a3 a4 a5 a6 a7, (∀ wv_7, Ext W.drew wv_7 -> Loads P 33 ⟨r, 0, none⟩ (.agg #[.string a3, .bool a4, .slice a5 a6 a7]) wv_7) /\ ∀ (ss : List (Option Nat)) (a8 : World), Fl [.cells ⟨[.bool false, .slice none 0 0, .slice none 0 0]⟩ 53 (0, 0)] [none] W.drew ss a8 ->
 Calls P 209 ⟨[.agg #[.string a3, .bool a4, .slice a5 a6 a7]]⟩ a8 fun a9 aa =>
 ∃ ab ac ae af ag ah ai, a9 = .returned (.agg #[.bool ab, .slice ac ae af, .slice ag ah ai]) /\
 Ext a8 aa /\ ∃ aj ak al am an, (∀ wv_10, Ext W.drew wv_10 -> Loads P 63 ⟨a0, 0, none⟩ (.agg #[.bool aj, .slice ak al am, .int .i64 an]) wv_10) /\ ∀ (ss_1 : List (Option Nat)) (ao : World), Fl [.cells ⟨[.bool false, .slice none 0 0, .slice none 0 0]⟩ 53 (0, 0)] ss aa ss_1 ao ->
 Calls P 210 ⟨[.agg #[.bool aj, .slice ak al am, .int .i64 an]]⟩ ao fun ap aq =>
 ∃ ar au av aw ax ay az, ap = .returned (.agg #[.bool ar, .slice au av aw, .slice ax ay az]) /\
 ∀ (ss_2 : List (Option Nat)) (b0 : World), Fl [.cells ⟨[.bool false, .slice none 0 0, .slice none 0 0]⟩ 53 (0, 0)] ss_1 aq ss_2 b0 ->
 Calls P 208 ⟨[.agg #[.bool ab, .slice ac ae af, .slice ag ah ai], .agg #[.bool ar, .slice au av aw, .slice ax ay az]]⟩ b0 fun b1 b2 =>
 ∃ b3 b4 b5 b6 b7 b8 b9 ba, b1 = .returned (.tuple #[.agg #[.bool b3, .slice b4 b5 b6, .slice b7 b8 b9], .bool ba]) /\
 ∀ (ss_3 : List (Option Nat)) (bb : World) (bc : Nat), Fl [.cells ⟨[.bool false, .slice none 0 0, .slice none 0 0]⟩ 53 (0, 0)] ss_2 b2 ss_3 bb -> ss_3[0]? = some (some bc) ->
 ∃ wv_16, Stores P 53 ⟨bc, 0, none⟩ (.agg #[.bool b3, .slice b4 b5 b6, .slice b7 b8 b9]) bb wv_16 /\
 ∃ bd, Loads P 9 ((⟨r, 0, none⟩ : Addr).add 0) (.string bd) wv_16 /\ ∃ be bf bg bh bi bj bk, Loads P 53 ⟨bc, 0, none⟩ (.agg #[.bool be, .slice bf bg bh, .slice bi bj bk]) wv_16 /\ Calls P 211 ⟨[.string bd, .agg #[.bool be, .slice bf bg bh, .slice bi bj bk], .int .i64 mode]⟩ wv_16 fun bl bm =>
 ∃ bn bo bp bq br bs bt bu bv bw bx bz c0, bl = .returned (.tuple #[.agg #[.string bn, .bool bo, .slice bp bq br], .agg #[.bool bs, .slice bt bu bv, .slice bw bx bz], .bool c0]) /\
 ∃ wv_18, Stores P 33 ⟨a1, 0, none⟩ (.agg #[.string bn, .bool bo, .slice bp bq br]) bm wv_18 /\
 ∃ wv_19, Stores P 53 ⟨a2, 0, none⟩ (.agg #[.bool bs, .slice bt bu bv, .slice bw bx bz]) wv_18 wv_19 /\
 ∃ r0_3 r1_1 c1 c2 c3, Loads P 33 ⟨a1, 0, none⟩ (.agg #[.string r0_3, .bool r1_1, .slice c1 c2 c3]) wv_19 /\ ∃ r0_4 c4 c5 c6 c7 c8 c9, Loads P 53 ⟨a2, 0, none⟩ (.agg #[.bool r0_4, .slice c4 c5 c6, .slice c7 c8 c9]) wv_19 /\ R (.tuple #[.agg #[.string r0_3, .bool r1_1, .slice c1 c2 c3], .agg #[.bool r0_4, .slice c4 c5 c6, .slice c7 c8 c9], .bool c0]) wv_19
def spec_TaxOn (net0 : ByteArray) (net1 : Bool) (a0 : Option Addr) (a1 a2 : Nat) (r0 : Bool) (a3 : Option Addr) (a4 a5 : Nat) (r2 mode : Int) (w : World) (R : Value -> World -> Prop) : Prop :=
 ∀ r wv, New w (.cells ⟨[.string net0, .bool net1, .slice a0 a1 a2]⟩ 33 (0, 0)) r wv ->
 ∀ a6 a7, New wv (.cells ⟨[.bool r0, .slice a3 a4 a5, .int .i64 r2]⟩ 63 (0, 0)) a6 a7 ->
 ∀ a8 a9, New a7 (.cells ⟨[.string ByteArray.empty, .bool false, .slice none 0 0]⟩ 33 (0, 0)) a8 a9 ->
 ∀ aa ab, New a9 (.cells ⟨[.bool false, .slice none 0 0, .slice none 0 0]⟩ 53 (0, 0)) aa ab ->
 ∃ ac ae af ag ah, Loads P 33 ⟨r, 0, none⟩ (.agg #[.string ac, .bool ae, .slice af ag ah]) ab /\ Calls P 67 ⟨[.agg #[.string ac, .bool ae, .slice af ag ah]]⟩ ab fun e ai =>
 ∃ aj, e = .returned (.bool aj) /\
 ((!aj) = true ->
 (true = true ->
 ∃ wv_5, Stores P 33 ⟨a8, 0, none⟩ (.agg #[.string ByteArray.empty, .bool false, .slice none 0 0]) ai wv_5 /\
 ∃ wv_6, Stores P 53 ⟨aa, 0, none⟩ (.agg #[.bool false, .slice none 0 0, .slice none 0 0]) wv_5 wv_6 /\
 ∃ r0_1 r1 ak al am, Loads P 33 ⟨a8, 0, none⟩ (.agg #[.string r0_1, .bool r1, .slice ak al am]) wv_6 /\ ∃ r0_2 an ao ap aq ar au, Loads P 53 ⟨aa, 0, none⟩ (.agg #[.bool r0_2, .slice an ao ap, .slice aq ar au]) wv_6 /\ R (.tuple #[.agg #[.string r0_1, .bool r1, .slice ak al am], .agg #[.bool r0_2, .slice an ao ap, .slice aq ar au], .bool false]) wv_6) /\
 (true = false ->
 spec_TaxOn_j0 mode r a6 a8 aa ai R)) /\
 ((!aj) = false ->
 ∃ av aw ax ay az, Loads P 63 ⟨a6, 0, none⟩ (.agg #[.bool av, .slice aw ax ay, .int .i64 az]) ai /\ Calls P 110 ⟨[.agg #[.bool av, .slice aw ax ay, .int .i64 az]]⟩ ai fun b0 b1 =>
 ∃ b2, b0 = .returned (.bool b2) /\
 ((!b2) = true ->
 ∃ wv_21, Stores P 33 ⟨a8, 0, none⟩ (.agg #[.string ByteArray.empty, .bool false, .slice none 0 0]) b1 wv_21 /\
 ∃ wv_22, Stores P 53 ⟨aa, 0, none⟩ (.agg #[.bool false, .slice none 0 0, .slice none 0 0]) wv_21 wv_22 /\
 ∃ r0_5 r1_2 b3 b4 b5, Loads P 33 ⟨a8, 0, none⟩ (.agg #[.string r0_5, .bool r1_2, .slice b3 b4 b5]) wv_22 /\ ∃ r0_6 b6 b7 b8 b9 ba bb, Loads P 53 ⟨aa, 0, none⟩ (.agg #[.bool r0_6, .slice b6 b7 b8, .slice b9 ba bb]) wv_22 /\ R (.tuple #[.agg #[.string r0_5, .bool r1_2, .slice b3 b4 b5], .agg #[.bool r0_6, .slice b6 b7 b8, .slice b9 ba bb], .bool false]) wv_22) /\
 ((!b2) = false ->
 spec_TaxOn_j0 mode r a6 a8 aa b1 R))
theorem spec_TaxOn_ret {a : ByteArray} {a0 : Bool} {a1 : Option Addr} {a2 a3 : Nat} {r0 : Bool} {a4 : Option Addr} {a5 a6 : Nat} {r2 a7 : Int} (h : spec_TaxOn a a0 a1 a2 a3 r0 a4 a5 a6 r2 a7 w R) : Ret P 114 [.agg #[.string a, .bool a0, .slice a1 a2 a3], .agg #[.bool r0, .slice a4 a5 a6, .int .i64 r2], .int .i64 a7] w R := Ret.of_fsem Tryz.func114 rfl (Eq.mp (show _ = fsem P Tryz.f114 (fun k => []) _ R w from by kernel_rfl) h)
def impl_DecCmp_j0 (r a0 : Nat) (W : World) (R : Value -> World -> Prop) : Prop :=
 ∃ a1, Loads P 3 ((⟨r, 0, none⟩ : Addr).add 2) (.int .i64 a1) W /\ ∃ a2, Loads P 3 ((⟨a0, 0, none⟩ : Addr).add 2) (.int .i64 a2) W /\ ∃ a3 : Int, a3 = (if a2 > a1 then a2 else a1) /\ Calls P 213 ⟨[.int .i64 a3]⟩ W fun a4 a5 =>
 ∃ (a6 : Value), a4 = .returned a6 /\
 ∃ a7 a8 a9 aa ab, (∀ wv_4, Ext a5.drew wv_4 -> Loads P 63 ⟨r, 0, none⟩ (.agg #[.bool a7, .slice a8 a9 aa, .int .i64 ab]) wv_4) /\ CallW P a6 [.agg #[.bool a7, .slice a8 a9 aa, .int .i64 ab]] a5.drew fun ac ae =>
 ∃ af ag ah ai, ac = .returned (.agg #[.bool af, .slice ag ah ai]) /\
 Ext a5.drew ae /\ ∃ aj ak al am an, (∀ wv_6, Ext a5.drew wv_6 -> Loads P 63 ⟨a0, 0, none⟩ (.agg #[.bool aj, .slice ak al am, .int .i64 an]) wv_6) /\ CallW P a6 [.agg #[.bool aj, .slice ak al am, .int .i64 an]] ae fun ao ap =>
 ∃ aq ar au av, ao = .returned (.agg #[.bool aq, .slice ar au av]) /\
 Calls P 135 ⟨[.agg #[.bool af, .slice ag ah ai], .agg #[.bool aq, .slice ar au av]]⟩ ap fun aw ax =>
 ∃ ay, aw = .returned (.int .i64 ay) /\
 R (.int .i64 ay) ax
def impl_DecCmp (d0 : Bool) (a0 : Option Addr) (a1 a2 : Nat) (d2 : Int) (e0 : Bool) (a3 : Option Addr) (a4 a5 : Nat) (e2 : Int) (w : World) (R : Value -> World -> Prop) : Prop :=
 ∀ r wv, New w (.cells ⟨[.bool d0, .slice a0 a1 a2, .int .i64 d2]⟩ 63 (0, 0)) r wv ->
 ∀ a6 a7, New wv (.cells ⟨[.bool e0, .slice a3 a4 a5, .int .i64 e2]⟩ 63 (0, 0)) a6 a7 ->
 ∃ a8 a9 aa ab ac, Loads P 63 ⟨r, 0, none⟩ (.agg #[.bool a8, .slice a9 aa ab, .int .i64 ac]) a7 /\ Calls P 212 ⟨[.agg #[.bool a8, .slice a9 aa ab, .int .i64 ac]]⟩ a7 fun e ae =>
 ∃ t7, e = .returned (.bool t7) /\
 ((!t7) = true ->
 (true = true ->
 R (.int .i64 0) ae) /\
 (true = false ->
 impl_DecCmp_j0 r a6 ae R)) /\
 ((!t7) = false ->
 ∃ af ag ah ai aj, Loads P 63 ⟨a6, 0, none⟩ (.agg #[.bool af, .slice ag ah ai, .int .i64 aj]) ae /\ Calls P 212 ⟨[.agg #[.bool af, .slice ag ah ai, .int .i64 aj]]⟩ ae fun ak al =>
 ∃ am, ak = .returned (.bool am) /\
 ((!am) = true ->
 R (.int .i64 0) al) /\
 ((!am) = false ->
 impl_DecCmp_j0 r a6 al R))
theorem impl_DecCmp_ret {d0 : Bool} {a : Option Addr} {a0 a1 : Nat} {d2 : Int} {e0 : Bool} {a2 : Option Addr} {a3 a4 : Nat} {e2 : Int} (h : impl_DecCmp d0 a a0 a1 d2 e0 a2 a3 a4 e2 w R) : Ret P 117 [.agg #[.bool d0, .slice a a0 a1, .int .i64 d2], .agg #[.bool e0, .slice a2 a3 a4, .int .i64 e2]] w R := Ret.of_fsem Tryz.func117 rfl (Eq.mp (show _ = fsem P Tryz.f117 (fun k => []) _ R w from by kernel_rfl) h)
end Go.Proofs.YtfehpaekbbmkcaaGreatDoor
namespace Go.Proofs.YtfehpaekbbmkcaaGreatDoor
variable {w : World} {R : Value -> World -> Prop}
open Go Go.Proofs.YtfehpaekbbmkcaaGreatDoor.Sx
set_option maxRecDepth 100000
def impl_TaxRateOk (r0 : Bool) (a0 : Option Addr) (a1 a2 : Nat) (r2 : Int) (w : World) (R : Value -> World -> Prop) : Prop :=
 ∀ r wv, New w (.cells ⟨[.bool r0, .slice a0 a1 a2, .int .i64 r2]⟩ 63 (0, 0)) r wv ->
 ∃ a3 a4 a5 a6 a7, (∀ wv_1, Ext wv.drew wv_1 -> Loads P 63 ⟨r, 0, none⟩ (.agg #[.bool a3, .slice a4 a5 a6, .int .i64 a7]) wv_1) /\ Calls P 212 ⟨[.agg #[.bool a3, .slice a4 a5 a6, .int .i64 a7]]⟩ wv.drew fun e a8 =>
 ∃ t4, e = .returned (.bool t4) /\
 (t4 = true ->
 ∃ a9 aa ab, (∀ wv_3, Ext a8 wv_3 -> Loads P 22 (((⟨r, 0, none⟩ : Addr).add 0).add 1) (.slice a9 aa ab) wv_3) /\ ((decide ((((aa : Nat) : Int) : Int) <= 1)) = true ->
 ∃ ac, (∀ wv_4, Ext a8 wv_4 -> Loads P 4 (((⟨r, 0, none⟩ : Addr).add 0).add 0) (.bool ac) wv_4) /\ ((!ac) = true ->
 ∃ ae af ag ah ai, (∀ wv_5, Ext a8 wv_5 -> Loads P 63 ⟨r, 0, none⟩ (.agg #[.bool ae, .slice af ag ah, .int .i64 ai]) wv_5) /\ Calls P 139 ⟨[.int .i64 1]⟩ a8 fun aj ak =>
 ∃ al am an ao, aj = .returned (.agg #[.bool al, .slice am an ao]) /\
 Ext a8 ak /\ Calls P 117 ⟨[.agg #[.bool ae, .slice af ag ah, .int .i64 ai], .agg #[.bool al, .slice am an ao, .int .i64 0]]⟩ ak fun ap aq =>
 ∃ ar, ap = .returned (.int .i64 ar) /\
 R (.bool (decide ((ar : Int) <= 0))) aq) /\
 ((!ac) = false ->
 R (.bool false) a8)) /\
 ((decide ((((aa : Nat) : Int) : Int) <= 1)) = false ->
 (false = true ->
 ∃ au av aw ax ay, (∀ wv_8, Ext a8 wv_8 -> Loads P 63 ⟨r, 0, none⟩ (.agg #[.bool au, .slice av aw ax, .int .i64 ay]) wv_8) /\ Calls P 139 ⟨[.int .i64 1]⟩ a8 fun az b0 =>
 ∃ b1 b2 b3 b4, az = .returned (.agg #[.bool b1, .slice b2 b3 b4]) /\
 Ext a8 b0 /\ Calls P 117 ⟨[.agg #[.bool au, .slice av aw ax, .int .i64 ay], .agg #[.bool b1, .slice b2 b3 b4, .int .i64 0]]⟩ b0 fun b5 b6 =>
 ∃ b7, b5 = .returned (.int .i64 b7) /\
 R (.bool (decide ((b7 : Int) <= 0))) b6) /\
 (false = false ->
 R (.bool false) a8))) /\
 (t4 = false ->
 (false = true ->
 ∃ b8, (∀ wv_11, Ext a8 wv_11 -> Loads P 4 (((⟨r, 0, none⟩ : Addr).add 0).add 0) (.bool b8) wv_11) /\ ((!b8) = true ->
 ∃ b9 ba bb bc bd, (∀ wv_12, Ext a8 wv_12 -> Loads P 63 ⟨r, 0, none⟩ (.agg #[.bool b9, .slice ba bb bc, .int .i64 bd]) wv_12) /\ Calls P 139 ⟨[.int .i64 1]⟩ a8 fun be bf =>
 ∃ bg bh bi bj, be = .returned (.agg #[.bool bg, .slice bh bi bj]) /\
 Ext a8 bf /\ Calls P 117 ⟨[.agg #[.bool b9, .slice ba bb bc, .int .i64 bd], .agg #[.bool bg, .slice bh bi bj, .int .i64 0]]⟩ bf fun bk bl =>
 ∃ bm, bk = .returned (.int .i64 bm) /\
 R (.bool (decide ((bm : Int) <= 0))) bl) /\
 ((!b8) = false ->
 R (.bool false) a8)) /\
 (false = false ->
 (false = true ->
 ∃ bn bo bp bq br, (∀ wv_15, Ext a8 wv_15 -> Loads P 63 ⟨r, 0, none⟩ (.agg #[.bool bn, .slice bo bp bq, .int .i64 br]) wv_15) /\ Calls P 139 ⟨[.int .i64 1]⟩ a8 fun bs bt =>
 ∃ bu bv bw bx, bs = .returned (.agg #[.bool bu, .slice bv bw bx]) /\
 Ext a8 bt /\ Calls P 117 ⟨[.agg #[.bool bn, .slice bo bp bq, .int .i64 br], .agg #[.bool bu, .slice bv bw bx, .int .i64 0]]⟩ bt fun bz c0 =>
 ∃ c1, bz = .returned (.int .i64 c1) /\
 R (.bool (decide ((c1 : Int) <= 0))) c0) /\
 (false = false ->
 R (.bool false) a8)))
theorem impl_TaxRateOk_ret {r0 : Bool} {a : Option Addr} {a0 a1 : Nat} {r2 : Int} (h : impl_TaxRateOk r0 a a0 a1 r2 w R) : Ret P 118 [.agg #[.bool r0, .slice a a0 a1, .int .i64 r2]] w R := Ret.of_fsem Tryz.func118 rfl (Eq.mp (show _ = fsem P Tryz.f118 (fun k => []) _ R w from by kernel_rfl) h)
def impl_intAdd_j0 (r a0 a1 : Nat) (W : World) (R : Value -> World -> Prop) : Prop :=
 ∃ a2, (∀ wv_12, Ext W.drew wv_12 -> Loads P 4 ((⟨r, 0, none⟩ : Addr).add 0) (.bool a2) wv_12) /\ ∃ a3 a4 a5, (∀ wv_13, Ext W.drew wv_13 -> Loads P 22 ((⟨r, 0, none⟩ : Addr).add 1) (.slice a3 a4 a5) wv_13) /\ ∃ a6 a7 a8, (∀ wv_14, Ext W.drew wv_14 -> Loads P 22 ((⟨a0, 0, none⟩ : Addr).add 1) (.slice a6 a7 a8) wv_14) /\ Calls P 166 ⟨[.slice a3 a4 a5, .slice a6 a7 a8]⟩ W.drew fun a9 aa =>
 ∃ ab ac ae, a9 = .returned (.slice ab ac ae) /\
 Ext W.drew aa /\ Calls P 173 ⟨[.bool a2, .slice ab ac ae]⟩ aa fun af ag =>
 ∃ ah ai aj ak, af = .returned (.agg #[.bool ah, .slice ai aj ak]) /\
 ∃ wv_17, Stores P 31 ⟨a1, 0, none⟩ (.agg #[.bool ah, .slice ai aj ak]) ag wv_17 /\
 ∃ r0_1 al am an, Loads P 31 ⟨a1, 0, none⟩ (.agg #[.bool r0_1, .slice al am an]) wv_17 /\ R (.agg #[.bool r0_1, .slice al am an]) wv_17
def impl_intAdd (x0 : Bool) (a0 : Option Addr) (a1 a2 : Nat) (y0 : Bool) (a3 : Option Addr) (a4 a5 : Nat) (w : World) (R : Value -> World -> Prop) : Prop :=
 ∀ r wv, New w (.cells ⟨[.bool x0, .slice a0 a1 a2]⟩ 31 (0, 0)) r wv ->
 ∀ a6 a7, New wv (.cells ⟨[.bool y0, .slice a3 a4 a5]⟩ 31 (0, 0)) a6 a7 ->
 ∀ a8 a9, New a7 (.cells ⟨[.bool false, .slice none 0 0]⟩ 31 (0, 0)) a8 a9 ->
 ∃ t6, Loads P 4 ((⟨r, 0, none⟩ : Addr).add 0) (.bool t6) a9 /\ ∃ t8, Loads P 4 ((⟨a6, 0, none⟩ : Addr).add 0) (.bool t8) a9 /\ ((t6 == t8) = true ->
 ∃ aa, (∀ wv_3, Ext a9.drew wv_3 -> Loads P 4 ((⟨r, 0, none⟩ : Addr).add 0) (.bool aa) wv_3) /\ ∃ ab ac ae, (∀ wv_4, Ext a9.drew wv_4 -> Loads P 22 ((⟨r, 0, none⟩ : Addr).add 1) (.slice ab ac ae) wv_4) /\ ∃ af ag ah, (∀ wv_5, Ext a9.drew wv_5 -> Loads P 22 ((⟨a6, 0, none⟩ : Addr).add 1) (.slice af ag ah) wv_5) /\ Calls P 137 ⟨[.slice ab ac ae, .slice af ag ah]⟩ a9.drew fun e ai =>
 ∃ aj ak al, e = .returned (.slice aj ak al) /\
 Ext a9.drew ai /\ Calls P 173 ⟨[.bool aa, .slice aj ak al]⟩ ai fun am an =>
 ∃ ao ap aq ar, am = .returned (.agg #[.bool ao, .slice ap aq ar]) /\
 ∃ wv_8, Stores P 31 ⟨a8, 0, none⟩ (.agg #[.bool ao, .slice ap aq ar]) an wv_8 /\
 ∃ r0 au av aw, Loads P 31 ⟨a8, 0, none⟩ (.agg #[.bool r0, .slice au av aw]) wv_8 /\ R (.agg #[.bool r0, .slice au av aw]) wv_8) /\
 ((t6 == t8) = false ->
 ∃ ax ay az, Loads P 22 ((⟨r, 0, none⟩ : Addr).add 1) (.slice ax ay az) a9 /\ ∃ b0 b1 b2, Loads P 22 ((⟨a6, 0, none⟩ : Addr).add 1) (.slice b0 b1 b2) a9 /\ Calls P 170 ⟨[.slice ax ay az, .slice b0 b1 b2]⟩ a9 fun b3 b4 =>
 ∃ b5, b3 = .returned (.int .i64 b5) /\
 ((decide ((b5 : Int) < 0)) = true ->
 ∃ b6 b7 b8 b9, Loads P 31 ⟨a6, 0, none⟩ (.agg #[.bool b6, .slice b7 b8 b9]) b4 /\ ∃ ba bb bc bd, Loads P 31 ⟨r, 0, none⟩ (.agg #[.bool ba, .slice bb bc bd]) b4 /\ ∃ wv_10, Stores P 31 ⟨r, 0, none⟩ (.agg #[.bool b6, .slice b7 b8 b9]) b4 wv_10 /\
 ∃ wv_11, Stores P 31 ⟨a6, 0, none⟩ (.agg #[.bool ba, .slice bb bc bd]) wv_10 wv_11 /\
 impl_intAdd_j0 r a6 a8 wv_11 R) /\
 ((decide ((b5 : Int) < 0)) = false ->
 impl_intAdd_j0 r a6 a8 b4 R))
theorem impl_intAdd_ret {x0 : Bool} {a : Option Addr} {a0 a1 : Nat} {y0 : Bool} {a2 : Option Addr} {a3 a4 : Nat} (h : impl_intAdd x0 a a0 a1 y0 a2 a3 a4 w R) : Ret P 121 [.agg #[.bool x0, .slice a a0 a1], .agg #[.bool y0, .slice a2 a3 a4]] w R := Ret.of_fsem Tryz.func121 rfl (Eq.mp (show _ = fsem P Tryz.f121 (fun k => []) _ R w from by kernel_rfl) h)
def impl_TaxOn_j0 (mode : Int) (r a0 : Nat) (a1 a2 : Nat) (W : World) (R : Value -> World -> Prop) : Prop :=
 ∃ a3 a4 a5 a6 a7, (∀ wv_7, Ext W.drew wv_7 -> Loads P 33 ⟨r, 0, none⟩ (.agg #[.string a3, .bool a4, .slice a5 a6 a7]) wv_7) /\ ∀ (ss : List (Option Nat)) (a8 : World), Fl [.cells ⟨[.bool false, .slice none 0 0, .slice none 0 0]⟩ 53 (0, 0)] [none] W.drew ss a8 ->
 Calls P 218 ⟨[.agg #[.string a3, .bool a4, .slice a5 a6 a7]]⟩ a8 fun a9 aa =>
 ∃ ab ac ae af ag ah ai, a9 = .returned (.agg #[.bool ab, .slice ac ae af, .slice ag ah ai]) /\
 Ext a8 aa /\ ∃ aj ak al am an, (∀ wv_10, Ext W.drew wv_10 -> Loads P 63 ⟨a0, 0, none⟩ (.agg #[.bool aj, .slice ak al am, .int .i64 an]) wv_10) /\ ∀ (ss_1 : List (Option Nat)) (ao : World), Fl [.cells ⟨[.bool false, .slice none 0 0, .slice none 0 0]⟩ 53 (0, 0)] ss aa ss_1 ao ->
 Calls P 219 ⟨[.agg #[.bool aj, .slice ak al am, .int .i64 an]]⟩ ao fun ap aq =>
 ∃ ar au av aw ax ay az, ap = .returned (.agg #[.bool ar, .slice au av aw, .slice ax ay az]) /\
 ∀ (ss_2 : List (Option Nat)) (b0 : World), Fl [.cells ⟨[.bool false, .slice none 0 0, .slice none 0 0]⟩ 53 (0, 0)] ss_1 aq ss_2 b0 ->
 Calls P 217 ⟨[.agg #[.bool ab, .slice ac ae af, .slice ag ah ai], .agg #[.bool ar, .slice au av aw, .slice ax ay az]]⟩ b0 fun b1 b2 =>
 ∃ b3 b4 b5 b6 b7 b8 b9 ba, b1 = .returned (.tuple #[.agg #[.bool b3, .slice b4 b5 b6, .slice b7 b8 b9], .bool ba]) /\
 ∀ (ss_3 : List (Option Nat)) (bb : World) (bc : Nat), Fl [.cells ⟨[.bool false, .slice none 0 0, .slice none 0 0]⟩ 53 (0, 0)] ss_2 b2 ss_3 bb -> ss_3[0]? = some (some bc) ->
 ∃ wv_16, Stores P 53 ⟨bc, 0, none⟩ (.agg #[.bool b3, .slice b4 b5 b6, .slice b7 b8 b9]) bb wv_16 /\
 ((!ba) = true ->
 ∃ wv_17, Stores P 33 ⟨a1, 0, none⟩ (.agg #[.string ByteArray.empty, .bool false, .slice none 0 0]) wv_16 wv_17 /\
 ∃ wv_18, Stores P 53 ⟨a2, 0, none⟩ (.agg #[.bool false, .slice none 0 0, .slice none 0 0]) wv_17 wv_18 /\
 ∃ r0_3 r1_1 bd be bf, Loads P 33 ⟨a1, 0, none⟩ (.agg #[.string r0_3, .bool r1_1, .slice bd be bf]) wv_18 /\ ∃ r0_4 bg bh bi bj bk bl, Loads P 53 ⟨a2, 0, none⟩ (.agg #[.bool r0_4, .slice bg bh bi, .slice bj bk bl]) wv_18 /\ R (.tuple #[.agg #[.string r0_3, .bool r1_1, .slice bd be bf], .agg #[.bool r0_4, .slice bg bh bi, .slice bj bk bl], .bool false]) wv_18) /\
 ((!ba) = false ->
 ∃ bm, Loads P 9 ((⟨r, 0, none⟩ : Addr).add 0) (.string bm) wv_16 /\ ∃ bn bo bp bq br bs bt, Loads P 53 ⟨bc, 0, none⟩ (.agg #[.bool bn, .slice bo bp bq, .slice br bs bt]) wv_16 /\ Calls P 220 ⟨[.string bm, .agg #[.bool bn, .slice bo bp bq, .slice br bs bt], .int .i64 mode]⟩ wv_16 fun bu bv =>
 ∃ bw bx bz c0 c1 c2 c3 c4 c5 c6 c7 c8 c9, bu = .returned (.tuple #[.agg #[.string bw, .bool bx, .slice bz c0 c1], .agg #[.bool c2, .slice c3 c4 c5, .slice c6 c7 c8], .bool c9]) /\
 ∃ wv_20, Stores P 33 ⟨a1, 0, none⟩ (.agg #[.string bw, .bool bx, .slice bz c0 c1]) bv wv_20 /\
 ∃ wv_21, Stores P 53 ⟨a2, 0, none⟩ (.agg #[.bool c2, .slice c3 c4 c5, .slice c6 c7 c8]) wv_20 wv_21 /\
 ∃ r0_5 r1_2 ca cb cc, Loads P 33 ⟨a1, 0, none⟩ (.agg #[.string r0_5, .bool r1_2, .slice ca cb cc]) wv_21 /\ ∃ r0_6 cd ce cf cg ch ci, Loads P 53 ⟨a2, 0, none⟩ (.agg #[.bool r0_6, .slice cd ce cf, .slice cg ch ci]) wv_21 /\ R (.tuple #[.agg #[.string r0_5, .bool r1_2, .slice ca cb cc], .agg #[.bool r0_6, .slice cd ce cf, .slice cg ch ci], .bool c9]) wv_21)
def impl_TaxOn (net0 : ByteArray) (net1 : Bool) (a0 : Option Addr) (a1 a2 : Nat) (r0 : Bool) (a3 : Option Addr) (a4 a5 : Nat) (r2 mode : Int) (w : World) (R : Value -> World -> Prop) : Prop :=
 ∀ r wv, New w (.cells ⟨[.string net0, .bool net1, .slice a0 a1 a2]⟩ 33 (0, 0)) r wv ->
 ∀ a6 a7, New wv (.cells ⟨[.bool r0, .slice a3 a4 a5, .int .i64 r2]⟩ 63 (0, 0)) a6 a7 ->
 ∀ a8 a9, New a7 (.cells ⟨[.string ByteArray.empty, .bool false, .slice none 0 0]⟩ 33 (0, 0)) a8 a9 ->
 ∀ aa ab, New a9 (.cells ⟨[.bool false, .slice none 0 0, .slice none 0 0]⟩ 53 (0, 0)) aa ab ->
 ∃ ac ae af ag ah, Loads P 33 ⟨r, 0, none⟩ (.agg #[.string ac, .bool ae, .slice af ag ah]) ab /\ Calls P 69 ⟨[.agg #[.string ac, .bool ae, .slice af ag ah]]⟩ ab fun e ai =>
 ∃ aj, e = .returned (.bool aj) /\
 ((!aj) = true ->
 (true = true ->
 ∃ wv_5, Stores P 33 ⟨a8, 0, none⟩ (.agg #[.string ByteArray.empty, .bool false, .slice none 0 0]) ai wv_5 /\
 ∃ wv_6, Stores P 53 ⟨aa, 0, none⟩ (.agg #[.bool false, .slice none 0 0, .slice none 0 0]) wv_5 wv_6 /\
 ∃ r0_1 r1 ak al am, Loads P 33 ⟨a8, 0, none⟩ (.agg #[.string r0_1, .bool r1, .slice ak al am]) wv_6 /\ ∃ r0_2 an ao ap aq ar au, Loads P 53 ⟨aa, 0, none⟩ (.agg #[.bool r0_2, .slice an ao ap, .slice aq ar au]) wv_6 /\ R (.tuple #[.agg #[.string r0_1, .bool r1, .slice ak al am], .agg #[.bool r0_2, .slice an ao ap, .slice aq ar au], .bool false]) wv_6) /\
 (true = false ->
 impl_TaxOn_j0 mode r a6 a8 aa ai R)) /\
 ((!aj) = false ->
 ∃ av aw ax ay az, Loads P 63 ⟨a6, 0, none⟩ (.agg #[.bool av, .slice aw ax ay, .int .i64 az]) ai /\ Calls P 118 ⟨[.agg #[.bool av, .slice aw ax ay, .int .i64 az]]⟩ ai fun b0 b1 =>
 ∃ b2, b0 = .returned (.bool b2) /\
 ((!b2) = true ->
 ∃ wv_23, Stores P 33 ⟨a8, 0, none⟩ (.agg #[.string ByteArray.empty, .bool false, .slice none 0 0]) b1 wv_23 /\
 ∃ wv_24, Stores P 53 ⟨aa, 0, none⟩ (.agg #[.bool false, .slice none 0 0, .slice none 0 0]) wv_23 wv_24 /\
 ∃ r0_7 r1_3 b3 b4 b5, Loads P 33 ⟨a8, 0, none⟩ (.agg #[.string r0_7, .bool r1_3, .slice b3 b4 b5]) wv_24 /\ ∃ r0_8 b6 b7 b8 b9 ba bb, Loads P 53 ⟨aa, 0, none⟩ (.agg #[.bool r0_8, .slice b6 b7 b8, .slice b9 ba bb]) wv_24 /\ R (.tuple #[.agg #[.string r0_7, .bool r1_3, .slice b3 b4 b5], .agg #[.bool r0_8, .slice b6 b7 b8, .slice b9 ba bb], .bool false]) wv_24) /\
 ((!b2) = false ->
 impl_TaxOn_j0 mode r a6 a8 aa b1 R))
theorem impl_TaxOn_ret {a : ByteArray} {a0 : Bool} {a1 : Option Addr} {a2 a3 : Nat} {r0 : Bool} {a4 : Option Addr} {a5 a6 : Nat} {r2 a7 : Int} (h : impl_TaxOn a a0 a1 a2 a3 r0 a4 a5 a6 r2 a7 w R) : Ret P 122 [.agg #[.string a, .bool a0, .slice a1 a2 a3], .agg #[.bool r0, .slice a4 a5 a6, .int .i64 r2], .int .i64 a7] w R := Ret.of_fsem Tryz.func122 rfl (Eq.mp (show _ = fsem P Tryz.f122 (fun k => []) _ R w from by kernel_rfl) h)
def spec_l01In (n lo hi : Int) (w : World) (R : Value -> World -> Prop) : Prop :=
 ((decide ((lo : Int) <= n)) = true ->
 R (.bool (decide ((n : Int) <= hi))) w) /\
 ((decide ((lo : Int) <= n)) = false ->
 R (.bool false) w)
theorem spec_l01In_ret {n lo hi : Int} (h : spec_l01In n lo hi w R) : Ret P 125 [.int .i64 n, .int .i64 lo, .int .i64 hi] w R := Ret.of_fsem Tryz.func125 rfl (Eq.mp (show _ = fsem P Tryz.f125 (fun k => []) _ R w from by kernel_rfl) h)
def spec_l06Mode (m : Int) (w : World) (R : Value -> World -> Prop) : Prop :=
 Calls P 125 ⟨[.int .i64 m, .int .i64 0, .int .i64 6]⟩ w fun e wv =>
 ∃ t4, e = .returned (.bool t4) /\
 R (.bool t4) wv
theorem spec_l06Mode_ret {m : Int} (h : spec_l06Mode m w R) : Ret P 126 [.int .i64 m] w R := Ret.of_fsem Tryz.func126 rfl (Eq.mp (show _ = fsem P Tryz.f126 (fun k => []) _ R w from by kernel_rfl) h)
def spec_IntMul (x0 : Bool) (a0 : Option Addr) (a1 a2 : Nat) (y0 : Bool) (a3 : Option Addr) (a4 a5 : Nat) (w : World) (R : Value -> World -> Prop) : Prop :=
 ∀ r wv, New w (.cells ⟨[.bool x0, .slice a0 a1 a2]⟩ 31 (0, 0)) r wv ->
 ∀ a6 a7, New wv (.cells ⟨[.bool y0, .slice a3 a4 a5]⟩ 31 (0, 0)) a6 a7 ->
 ∀ a8 a9, New a7 (.cells ⟨[.bool false, .slice none 0 0]⟩ 31 (0, 0)) a8 a9 ->
 ∃ aa ab ac ae, Loads P 31 ⟨r, 0, none⟩ (.agg #[.bool aa, .slice ab ac ae]) a9 /\ Calls P 151 ⟨[.agg #[.bool aa, .slice ab ac ae]]⟩ a9 fun e af =>
 ∃ t6, e = .returned (.bool t6) /\
 ((!t6) = true ->
 (true = true ->
 ∃ wv_4, Stores P 31 ⟨a8, 0, none⟩ (.agg #[.bool false, .slice none 0 0]) af wv_4 /\
 ∃ r0 ag ah ai, Loads P 31 ⟨a8, 0, none⟩ (.agg #[.bool r0, .slice ag ah ai]) wv_4 /\ R (.agg #[.bool r0, .slice ag ah ai]) wv_4) /\
 (true = false ->
 ∃ aj, (∀ wv_5, Ext af.drew wv_5 -> Loads P 4 ((⟨r, 0, none⟩ : Addr).add 0) (.bool aj) wv_5) /\ ∃ ak, (∀ wv_6, Ext af.drew wv_6 -> Loads P 4 ((⟨a6, 0, none⟩ : Addr).add 0) (.bool ak) wv_6) /\ ∃ al am an, (∀ wv_7, Ext af.drew wv_7 -> Loads P 22 ((⟨r, 0, none⟩ : Addr).add 1) (.slice al am an) wv_7) /\ ∃ ao ap aq, (∀ wv_8, Ext af.drew wv_8 -> Loads P 22 ((⟨a6, 0, none⟩ : Addr).add 1) (.slice ao ap aq) wv_8) /\ Calls P 175 ⟨[.slice al am an, .slice ao ap aq]⟩ af.drew fun ar au =>
 ∃ av aw ax, ar = .returned (.slice av aw ax) /\
 Ext af.drew au /\ Calls P 113 ⟨[(.bool (!(aj == ak))), .slice av aw ax]⟩ au fun ay az =>
 ∃ b0 b1 b2 b3, ay = .returned (.agg #[.bool b0, .slice b1 b2 b3]) /\
 ∃ wv_11, Stores P 31 ⟨a8, 0, none⟩ (.agg #[.bool b0, .slice b1 b2 b3]) az wv_11 /\
 ∃ r0_1 b4 b5 b6, Loads P 31 ⟨a8, 0, none⟩ (.agg #[.bool r0_1, .slice b4 b5 b6]) wv_11 /\ R (.agg #[.bool r0_1, .slice b4 b5 b6]) wv_11)) /\
 ((!t6) = false ->
 ∃ b7 b8 b9 ba, Loads P 31 ⟨a6, 0, none⟩ (.agg #[.bool b7, .slice b8 b9 ba]) af /\ Calls P 151 ⟨[.agg #[.bool b7, .slice b8 b9 ba]]⟩ af fun bb bc =>
 ∃ bd, bb = .returned (.bool bd) /\
 ((!bd) = true ->
 ∃ wv_13, Stores P 31 ⟨a8, 0, none⟩ (.agg #[.bool false, .slice none 0 0]) bc wv_13 /\
 ∃ r0_2 be bf bg, Loads P 31 ⟨a8, 0, none⟩ (.agg #[.bool r0_2, .slice be bf bg]) wv_13 /\ R (.agg #[.bool r0_2, .slice be bf bg]) wv_13) /\
 ((!bd) = false ->
 ∃ bh, (∀ wv_14, Ext bc.drew wv_14 -> Loads P 4 ((⟨r, 0, none⟩ : Addr).add 0) (.bool bh) wv_14) /\ ∃ bi, (∀ wv_15, Ext bc.drew wv_15 -> Loads P 4 ((⟨a6, 0, none⟩ : Addr).add 0) (.bool bi) wv_15) /\ ∃ bj bk bl, (∀ wv_16, Ext bc.drew wv_16 -> Loads P 22 ((⟨r, 0, none⟩ : Addr).add 1) (.slice bj bk bl) wv_16) /\ ∃ bm bn bo, (∀ wv_17, Ext bc.drew wv_17 -> Loads P 22 ((⟨a6, 0, none⟩ : Addr).add 1) (.slice bm bn bo) wv_17) /\ Calls P 175 ⟨[.slice bj bk bl, .slice bm bn bo]⟩ bc.drew fun bp bq =>
 ∃ br bs bt, bp = .returned (.slice br bs bt) /\
 Ext bc.drew bq /\ Calls P 113 ⟨[(.bool (!(bh == bi))), .slice br bs bt]⟩ bq fun bu bv =>
 ∃ bw bx bz c0, bu = .returned (.agg #[.bool bw, .slice bx bz c0]) /\
 ∃ wv_20, Stores P 31 ⟨a8, 0, none⟩ (.agg #[.bool bw, .slice bx bz c0]) bv wv_20 /\
 ∃ r0_3 c1 c2 c3, Loads P 31 ⟨a8, 0, none⟩ (.agg #[.bool r0_3, .slice c1 c2 c3]) wv_20 /\ R (.agg #[.bool r0_3, .slice c1 c2 c3]) wv_20))
theorem spec_IntMul_ret {x0 : Bool} {a : Option Addr} {a0 a1 : Nat} {y0 : Bool} {a2 : Option Addr} {a3 a4 : Nat} (h : spec_IntMul x0 a a0 a1 y0 a2 a3 a4 w R) : Ret P 127 [.agg #[.bool x0, .slice a a0 a1], .agg #[.bool y0, .slice a2 a3 a4]] w R := Ret.of_fsem Tryz.func127 rfl (Eq.mp (show _ = fsem P Tryz.f127 (fun k => []) _ R w from by kernel_rfl) h)
def spec_IntOf (n : Int) (w : World) (R : Value -> World -> Prop) : Prop :=
 ∀ r wv, New w (.cells ⟨[.bool false, .slice none 0 0]⟩ 31 (0, 0)) r wv ->
 ((decide ((n : Int) = (-9223372036854775808))) = true ->
 ∀ a0 a1, New wv (.cells ⟨[.int .i64 854775808, .int .i64 223372036, .int .i64 9]⟩ 3 (0, 0)) a0 a1 ->
 Calls P 113 ⟨[.bool true, (.slice (some ⟨a0, 0, none⟩) 3 3)]⟩ a1 fun e a2 =>
 ∃ a3 a4 a5 a6, e = .returned (.agg #[.bool a3, .slice a4 a5 a6]) /\
 ∃ wv_3, Stores P 31 ⟨r, 0, none⟩ (.agg #[.bool a3, .slice a4 a5 a6]) a2 wv_3 /\
 ∃ r0 a7 a8 a9, Loads P 31 ⟨r, 0, none⟩ (.agg #[.bool r0, .slice a7 a8 a9]) wv_3 /\ R (.agg #[.bool r0, .slice a7 a8 a9]) wv_3) /\
 ((decide ((n : Int) = (-9223372036854775808))) = false ->
 ((decide ((n : Int) < 0)) = true ->
 ∃ aa : Int, aa = IntKind.wrap .i64 (0 - n) /\ Calls P 221 ⟨[.int .i64 aa]⟩ wv fun ab ac =>
 ∃ ae af ag, ab = .returned (.slice ae af ag) /\
 Calls P 113 ⟨[.bool true, .slice ae af ag]⟩ ac fun ah ai =>
 ∃ aj ak al am, ah = .returned (.agg #[.bool aj, .slice ak al am]) /\
 ∃ wv_6, Stores P 31 ⟨r, 0, none⟩ (.agg #[.bool aj, .slice ak al am]) ai wv_6 /\
 ∃ r0_1 an ao ap, Loads P 31 ⟨r, 0, none⟩ (.agg #[.bool r0_1, .slice an ao ap]) wv_6 /\ R (.agg #[.bool r0_1, .slice an ao ap]) wv_6) /\
 ((decide ((n : Int) < 0)) = false ->
 Calls P 221 ⟨[.int .i64 n]⟩ wv fun aq ar =>
 ∃ au av aw, aq = .returned (.slice au av aw) /\
 Calls P 113 ⟨[.bool false, .slice au av aw]⟩ ar fun ax ay =>
 ∃ az b0 b1 b2, ax = .returned (.agg #[.bool az, .slice b0 b1 b2]) /\
 ∃ wv_9, Stores P 31 ⟨r, 0, none⟩ (.agg #[.bool az, .slice b0 b1 b2]) ay wv_9 /\
 ∃ r0_2 b3 b4 b5, Loads P 31 ⟨r, 0, none⟩ (.agg #[.bool r0_2, .slice b3 b4 b5]) wv_9 /\ R (.agg #[.bool r0_2, .slice b3 b4 b5]) wv_9))
theorem spec_IntOf_ret {n : Int} (h : spec_IntOf n w R) : Ret P 128 [.int .i64 n] w R := Ret.of_fsem Tryz.func128 rfl (Eq.mp (show _ = fsem P Tryz.f128 (fun k => []) _ R w from by kernel_rfl) h)
def spec_IntCmp_j1 (r a0 : Nat) (a1 : Bool) (a2 : World) (R : Value -> World -> Prop) : Prop :=
 (a1 = true ->
 R (.int .i64 (-1)) a2) /\
 (a1 = false ->
 ∃ a3, Loads P 4 ((⟨r, 0, none⟩ : Addr).add 0) (.bool a3) a2 /\ ((!a3) = true ->
 ∃ a4, Loads P 4 ((⟨a0, 0, none⟩ : Addr).add 0) (.bool a4) a2 /\ (a4 = true ->
 R (.int .i64 1) a2) /\
 (a4 = false ->
 ∃ a5, Loads P 4 ((⟨r, 0, none⟩ : Addr).add 0) (.bool a5) a2 /\ (a5 = true ->
 ∃ a6 a7 a8, Loads P 22 ((⟨a0, 0, none⟩ : Addr).add 1) (.slice a6 a7 a8) a2 /\ ∃ a9 aa ab, Loads P 22 ((⟨r, 0, none⟩ : Addr).add 1) (.slice a9 aa ab) a2 /\ Calls P 222 ⟨[.slice a6 a7 a8, .slice a9 aa ab]⟩ a2 fun ac ae =>
 ∃ af, ac = .returned (.int .i64 af) /\
 R (.int .i64 af) ae) /\
 (a5 = false ->
 ∃ ag ah ai, Loads P 22 ((⟨r, 0, none⟩ : Addr).add 1) (.slice ag ah ai) a2 /\ ∃ aj ak al, Loads P 22 ((⟨a0, 0, none⟩ : Addr).add 1) (.slice aj ak al) a2 /\ Calls P 222 ⟨[.slice ag ah ai, .slice aj ak al]⟩ a2 fun am an =>
 ∃ ao, am = .returned (.int .i64 ao) /\
 R (.int .i64 ao) an))) /\
 ((!a3) = false ->
 (false = true ->
 R (.int .i64 1) a2) /\
 (false = false ->
 ∃ ap, Loads P 4 ((⟨r, 0, none⟩ : Addr).add 0) (.bool ap) a2 /\ (ap = true ->
 ∃ aq ar au, Loads P 22 ((⟨a0, 0, none⟩ : Addr).add 1) (.slice aq ar au) a2 /\ ∃ av aw ax, Loads P 22 ((⟨r, 0, none⟩ : Addr).add 1) (.slice av aw ax) a2 /\ Calls P 222 ⟨[.slice aq ar au, .slice av aw ax]⟩ a2 fun ay az =>
 ∃ b0, ay = .returned (.int .i64 b0) /\
 R (.int .i64 b0) az) /\
 (ap = false ->
 ∃ b1 b2 b3, Loads P 22 ((⟨r, 0, none⟩ : Addr).add 1) (.slice b1 b2 b3) a2 /\ ∃ b4 b5 b6, Loads P 22 ((⟨a0, 0, none⟩ : Addr).add 1) (.slice b4 b5 b6) a2 /\ Calls P 222 ⟨[.slice b1 b2 b3, .slice b4 b5 b6]⟩ a2 fun b7 b8 =>
 ∃ b9, b7 = .returned (.int .i64 b9) /\
 R (.int .i64 b9) b8))))
def spec_IntCmp_j0 (r a0 : Nat) (t5 : Bool) (W : World) (R : Value -> World -> Prop) : Prop :=
 (t5 = true ->
 R (.int .i64 0) W) /\
 (t5 = false ->
 ∃ a1, Loads P 4 ((⟨r, 0, none⟩ : Addr).add 0) (.bool a1) W /\ (a1 = true ->
 ∃ a2, Loads P 4 ((⟨a0, 0, none⟩ : Addr).add 0) (.bool a2) W /\ spec_IntCmp_j1 r a0 (!a2) W R) /\
 (a1 = false ->
 spec_IntCmp_j1 r a0 false W R))
def spec_IntCmp (x0 : Bool) (a0 : Option Addr) (a1 a2 : Nat) (y0 : Bool) (a3 : Option Addr) (a4 a5 : Nat) (w : World) (R : Value -> World -> Prop) : Prop :=
 ∀ r wv, New w (.cells ⟨[.bool x0, .slice a0 a1 a2]⟩ 31 (0, 0)) r wv ->
 ∀ a6 a7, New wv (.cells ⟨[.bool y0, .slice a3 a4 a5]⟩ 31 (0, 0)) a6 a7 ->
 ∃ a8 a9 aa ab, Loads P 31 ⟨r, 0, none⟩ (.agg #[.bool a8, .slice a9 aa ab]) a7 /\ Calls P 151 ⟨[.agg #[.bool a8, .slice a9 aa ab]]⟩ a7 fun e ac =>
 ∃ t7, e = .returned (.bool t7) /\
 ((!t7) = true ->
 spec_IntCmp_j0 r a6 true ac R) /\
 ((!t7) = false ->
 ∃ ae af ag ah, Loads P 31 ⟨a6, 0, none⟩ (.agg #[.bool ae, .slice af ag ah]) ac /\ Calls P 151 ⟨[.agg #[.bool ae, .slice af ag ah]]⟩ ac fun ai aj =>
 ∃ ak, ai = .returned (.bool ak) /\
 spec_IntCmp_j0 r a6 (!ak) aj R)
theorem spec_IntCmp_ret {x0 : Bool} {a : Option Addr} {a0 a1 : Nat} {y0 : Bool} {a2 : Option Addr} {a3 a4 : Nat} (h : spec_IntCmp x0 a a0 a1 y0 a2 a3 a4 w R) : Ret P 129 [.agg #[.bool x0, .slice a a0 a1], .agg #[.bool y0, .slice a2 a3 a4]] w R := Ret.of_fsem Tryz.func129 rfl (Eq.mp (show _ = fsem P Tryz.f129 (fun k => []) _ R w from by kernel_rfl) h)
def spec_NatDiv (a0 : Option Addr) (a1 a2 : Nat) (a3 : Option Addr) (a4 a5 : Nat) (w : World) (R : Value -> World -> Prop) : Prop :=
 Calls P 223 ⟨[.slice a0 a1 a2]⟩ w fun e wv =>
 ∃ t7, e = .returned (.bool t7) /\
 ((!t7) = true ->
 (true = true ->
 (true = true ->
 R (.tuple #[.slice none 0 0, .slice none 0 0]) wv) /\
 (true = false ->
 Calls P 224 ⟨[.slice a0 a1 a2, .slice a3 a4 a5]⟩ wv fun a6 a7 =>
 ∃ a8 a9 aa ab ac ae, a6 = .returned (.tuple #[.slice a8 a9 aa, .slice ab ac ae]) /\
 R (.tuple #[.slice a8 a9 aa, .slice ab ac ae]) a7)) /\
 (true = false ->
 ((decide ((((a4 : Nat) : Int) : Int) = 0)) = true ->
 R (.tuple #[.slice none 0 0, .slice none 0 0]) wv) /\
 ((decide ((((a4 : Nat) : Int) : Int) = 0)) = false ->
 Calls P 224 ⟨[.slice a0 a1 a2, .slice a3 a4 a5]⟩ wv fun af ag =>
 ∃ ah ai aj ak al am, af = .returned (.tuple #[.slice ah ai aj, .slice ak al am]) /\
 R (.tuple #[.slice ah ai aj, .slice ak al am]) ag))) /\
 ((!t7) = false ->
 Calls P 223 ⟨[.slice a3 a4 a5]⟩ wv fun an ao =>
 ∃ ap, an = .returned (.bool ap) /\
 ((!ap) = true ->
 (true = true ->
 R (.tuple #[.slice none 0 0, .slice none 0 0]) ao) /\
 (true = false ->
 Calls P 224 ⟨[.slice a0 a1 a2, .slice a3 a4 a5]⟩ ao fun aq ar =>
 ∃ au av aw ax ay az, aq = .returned (.tuple #[.slice au av aw, .slice ax ay az]) /\
 R (.tuple #[.slice au av aw, .slice ax ay az]) ar)) /\
 ((!ap) = false ->
 ((decide ((((a4 : Nat) : Int) : Int) = 0)) = true ->
 R (.tuple #[.slice none 0 0, .slice none 0 0]) ao) /\
 ((decide ((((a4 : Nat) : Int) : Int) = 0)) = false ->
 Calls P 224 ⟨[.slice a0 a1 a2, .slice a3 a4 a5]⟩ ao fun b0 b1 =>
 ∃ b2 b3 b4 b5 b6 b7, b0 = .returned (.tuple #[.slice b2 b3 b4, .slice b5 b6 b7]) /\
 R (.tuple #[.slice b2 b3 b4, .slice b5 b6 b7]) b1)))
theorem spec_NatDiv_ret {a : Option Addr} {a0 a1 : Nat} {a2 : Option Addr} {a3 a4 : Nat} (h : spec_NatDiv a a0 a1 a2 a3 a4 w R) : Ret P 130 [.slice a a0 a1, .slice a2 a3 a4] w R := Ret.of_fsem Tryz.func130 rfl (Eq.mp (show _ = fsem P Tryz.f130 (fun k => []) _ R w from by kernel_rfl) h)
def spec_l15Does (left0 : ByteArray) (left1 : Bool) (a0 : Option Addr) (a1 a2 : Nat) (r0 : Bool) (a3 : Option Addr) (a4 a5 : Nat) (r2 : Int) (pay0 : Bool) (a6 : Option Addr) (a7 a8 : Nat) (n mode : Int) (w : World) (R : Value -> World -> Prop) : Prop :=
 ∀ r wv, New w (.cells ⟨[.string left0, .bool left1, .slice a0 a1 a2]⟩ 33 (0, 0)) r wv ->
 ∀ a9 aa, New wv (.cells ⟨[.bool r0, .slice a3 a4 a5, .int .i64 r2]⟩ 63 (0, 0)) a9 aa ->
 ∀ ab ac, New aa (.cells ⟨[.bool pay0, .slice a6 a7 a8]⟩ 31 (0, 0)) ab ac ->
 ∃ ae af ag ah ai, Loads P 33 ⟨r, 0, none⟩ (.agg #[.string ae, .bool af, .slice ag ah ai]) ac /\ ∃ aj ak al am an, Loads P 63 ⟨a9, 0, none⟩ (.agg #[.bool aj, .slice ak al am, .int .i64 an]) ac /\ ∃ ao, Loads P 9 ((⟨r, 0, none⟩ : Addr).add 0) (.string ao) ac /\ ∃ ap aq ar au, Loads P 31 ⟨ab, 0, none⟩ (.agg #[.bool ap, .slice aq ar au]) ac /\ Calls P 60 ⟨[.agg #[.string ae, .bool af, .slice ag ah ai], .agg #[.bool aj, .slice ak al am, .int .i64 an], .agg #[.string ao, .bool ap, .slice aq ar au], .int .i64 n, .int .i64 mode]⟩ ac fun e av =>
 ∃ aw ax ay az, e = .returned (.tuple #[.slice aw ax ay, .bool az]) /\
 (az = true ->
 Calls P 225 ⟨[.slice aw ax ay]⟩ av fun b0 b1 =>
 ∃ b2, b0 = .returned (.bool b2) /\
 (b2 = true ->
 R (.bool true) b1) /\
 (b2 = false ->
 ∃ b3 b4 b5 b6, Loads P 31 ((⟨r, 0, none⟩ : Addr).add 1) (.agg #[.bool b3, .slice b4 b5 b6]) b1 /\ Calls P 141 ⟨[.agg #[.bool b3, .slice b4 b5 b6]]⟩ b1 fun b7 b8 =>
 ∃ b9, b7 = .returned (.int .i64 b9) /\
 R (.bool (decide ((b9 : Int) = 0))) b8)) /\
 (az = false ->
 R (.bool false) av)
theorem spec_l15Does_ret {a : ByteArray} {a0 : Bool} {a1 : Option Addr} {a2 a3 : Nat} {r0 : Bool} {a4 : Option Addr} {a5 a6 : Nat} {r2 : Int} {a7 : Bool} {a8 : Option Addr} {a9 b : Nat} {n b0 : Int} (h : spec_l15Does a a0 a1 a2 a3 r0 a4 a5 a6 r2 a7 a8 a9 b n b0 w R) : Ret P 131 [.agg #[.string a, .bool a0, .slice a1 a2 a3], .agg #[.bool r0, .slice a4 a5 a6, .int .i64 r2], .agg #[.bool a7, .slice a8 a9 b], .int .i64 n, .int .i64 b0] w R := Ret.of_fsem Tryz.func131 rfl (Eq.mp (show _ = fsem P Tryz.f131 (fun k => []) _ R w from by kernel_rfl) h)
def spec_l09Make (cur : ByteArray) (x0 : Bool) (a0 : Option Addr) (a1 a2 : Nat) (w : World) (R : Value -> World -> Prop) : Prop :=
 ∀ r wv, New w (.cells ⟨[.bool x0, .slice a0 a1 a2]⟩ 31 (0, 0)) r wv ->
 ∀ a3 a4, New wv (.cells ⟨[.string ByteArray.empty, .bool false, .slice none 0 0]⟩ 33 (0, 0)) a3 a4 ->
 ∃ a5 a6 a7 a8, Loads P 31 ⟨r, 0, none⟩ (.agg #[.bool a5, .slice a6 a7 a8]) a4 /\ ∀ a9 aa, New a4 (.cells ⟨[.string ByteArray.empty, .bool false, .slice none 0 0]⟩ 33 (0, 0)) a9 aa ->
 ∃ wv_3, Stores P 33 ⟨a9, 0, none⟩ (.agg #[.string cur, .bool a5, .slice a6 a7 a8]) aa wv_3 /\
 ∃ ab ac ae af ag, Loads P 33 ⟨a9, 0, none⟩ (.agg #[.string ab, .bool ac, .slice ae af ag]) wv_3 /\ Calls P 67 ⟨[.agg #[.string ab, .bool ac, .slice ae af ag]]⟩ wv_3 fun e ah =>
 ∃ ai, e = .returned (.bool ai) /\
 ((!ai) = true ->
 ∃ wv_5, Stores P 33 ⟨a3, 0, none⟩ (.agg #[.string ByteArray.empty, .bool false, .slice none 0 0]) ah wv_5 /\
 ∃ r0 r1 aj ak al, Loads P 33 ⟨a3, 0, none⟩ (.agg #[.string r0, .bool r1, .slice aj ak al]) wv_5 /\ R (.tuple #[.agg #[.string r0, .bool r1, .slice aj ak al], .bool false]) wv_5) /\
 ((!ai) = false ->
 ∃ am an ao ap aq, Loads P 33 ⟨a9, 0, none⟩ (.agg #[.string am, .bool an, .slice ao ap aq]) ah /\ ∃ wv_6, Stores P 33 ⟨a3, 0, none⟩ (.agg #[.string am, .bool an, .slice ao ap aq]) ah wv_6 /\
 ∃ r0_1 r1_1 ar au av, Loads P 33 ⟨a3, 0, none⟩ (.agg #[.string r0_1, .bool r1_1, .slice ar au av]) wv_6 /\ R (.tuple #[.agg #[.string r0_1, .bool r1_1, .slice ar au av], .bool true]) wv_6)
theorem spec_l09Make_ret {a : ByteArray} {x0 : Bool} {a0 : Option Addr} {a1 a2 : Nat} (h : spec_l09Make a x0 a0 a1 a2 w R) : Ret P 132 [.string a, .agg #[.bool x0, .slice a0 a1 a2]] w R := Ret.of_fsem Tryz.func132 rfl (Eq.mp (show _ = fsem P Tryz.f132 (fun k => []) _ R w from by kernel_rfl) h)
def impl_isMode (m : Int) (w : World) (R : Value -> World -> Prop) : Prop :=
 ((decide ((0 : Int) <= m)) = true ->
 R (.bool (decide ((m : Int) <= 6))) w) /\
 ((decide ((0 : Int) <= m)) = false ->
 R (.bool false) w)
theorem impl_isMode_ret {m : Int} (h : impl_isMode m w R) : Ret P 133 [.int .i64 m] w R := Ret.of_fsem Tryz.func133 rfl (Eq.mp (show _ = fsem P Tryz.f133 (fun k => []) _ R w from by kernel_rfl) h)
def impl_isZero (m0 : ByteArray) (m1 : Bool) (a0 : Option Addr) (a1 a2 : Nat) (w : World) (R : Value -> World -> Prop) : Prop :=
 ∀ r wv, New w (.cells ⟨[.string m0, .bool m1, .slice a0 a1 a2]⟩ 33 (0, 0)) r wv ->
 ∃ a3 a4 a5 a6, Loads P 31 ((⟨r, 0, none⟩ : Addr).add 1) (.agg #[.bool a3, .slice a4 a5 a6]) wv /\ Calls P 158 ⟨[.agg #[.bool a3, .slice a4 a5 a6]]⟩ wv fun e a7 =>
 ∃ t5, e = .returned (.bool t5) /\
 (t5 = true ->
 ∃ a8 a9 aa, Loads P 22 (((⟨r, 0, none⟩ : Addr).add 1).add 1) (.slice a8 a9 aa) a7 /\ R (.bool (decide ((((a9 : Nat) : Int) : Int) = 0))) a7) /\
 (t5 = false ->
 R (.bool false) a7)
theorem impl_isZero_ret {m0 : ByteArray} {m1 : Bool} {a : Option Addr} {a0 a1 : Nat} (h : impl_isZero m0 m1 a a0 a1 w R) : Ret P 134 [.agg #[.string m0, .bool m1, .slice a a0 a1]] w R := Ret.of_fsem Tryz.func134 rfl (Eq.mp (show _ = fsem P Tryz.f134 (fun k => []) _ R w from by kernel_rfl) h)
def impl_intCmp (x0 : Bool) (a0 : Option Addr) (a1 a2 : Nat) (y0 : Bool) (a3 : Option Addr) (a4 a5 : Nat) (w : World) (R : Value -> World -> Prop) : Prop :=
 ∀ r wv, New w (.cells ⟨[.bool x0, .slice a0 a1 a2]⟩ 31 (0, 0)) r wv ->
 ∀ a6 a7, New wv (.cells ⟨[.bool y0, .slice a3 a4 a5]⟩ 31 (0, 0)) a6 a7 ->
 ∃ a8 a9 aa ab, (∀ wv_2, Ext a7.drew wv_2 -> Loads P 31 ⟨r, 0, none⟩ (.agg #[.bool a8, .slice a9 aa ab]) wv_2) /\ ∃ ac ae af ag, (∀ wv_3, Ext a7.drew wv_3 -> Loads P 31 ⟨a6, 0, none⟩ (.agg #[.bool ac, .slice ae af ag]) wv_3) /\ Calls P 226 ⟨[.agg #[.bool ac, .slice ae af ag]]⟩ a7.drew fun e ah =>
 ∃ ai aj ak al, e = .returned (.agg #[.bool ai, .slice aj ak al]) /\
 Ext a7.drew ah /\ Calls P 121 ⟨[.agg #[.bool a8, .slice a9 aa ab], .agg #[.bool ai, .slice aj ak al]]⟩ ah fun am an =>
 ∃ ao ap aq ar, am = .returned (.agg #[.bool ao, .slice ap aq ar]) /\
 Calls P 188 ⟨[.agg #[.bool ao, .slice ap aq ar]]⟩ an fun au av =>
 ∃ t9, au = .returned (.int .i64 t9) /\
 R (.int .i64 t9) av
theorem impl_intCmp_ret {x0 : Bool} {a : Option Addr} {a0 a1 : Nat} {y0 : Bool} {a2 : Option Addr} {a3 a4 : Nat} (h : impl_intCmp x0 a a0 a1 y0 a2 a3 a4 w R) : Ret P 135 [.agg #[.bool x0, .slice a a0 a1], .agg #[.bool y0, .slice a2 a3 a4]] w R := Ret.of_fsem Tryz.func135 rfl (Eq.mp (show _ = fsem P Tryz.f135 (fun k => []) _ R w from by kernel_rfl) h)
def impl_natSmall (a0 : Option Addr) (a1 a2 : Nat) (d : Int) (w : World) (R : Value -> World -> Prop) : Prop :=
 (0 <= (((a1 : Nat) : Int) : Int) /\ (((a1 : Nat) : Int) : Int) <= ((a1 : Nat) : Int) /\ ((8 : Nat) : Int) * ((a1 : Nat) : Int) <= 281474976710656) /\
 ∀ r wv, New w (.cells ⟨zeroRow (.int .i64 0) (a1 * 1)⟩ 3 (0, 0)) r wv ->
 ∃ a3 : Int, a3 = IntKind.wrap .i64 (((a1 : Nat) : Int) - 1) /\ ∃ (a4 : Int -> Int -> World -> Prop) (mu : Int -> Int -> World -> Nat), a4 0 a3 wv /\
 ∀ (a5 : Fr) (a6 : World) (rest i : Int), a4 rest i a6 ->
 ((decide ((0 : Int) <= i)) = true ->
 ∃ a7 : Int, a7 = IntKind.wrap .i64 (rest * 1000000000) /\ (0 <= (i : Int) /\ (i : Int) < (a1 : Nat)) /\ ptrS a0 fun ad => ∃ a8, Loads P 3 (ad.add (i.toNat * 1)) (.int .i64 a8) a6 /\ ∃ a9 : Int, a9 = IntKind.wrap .i64 (a7 + a8) /\ (d : Int) ≠ 0 /\ ∃ aa : Int, aa = IntKind.wrap .i64 (Int.tdiv a9 d) /\ (0 <= (i : Int) /\ (i : Int) < (a1 : Nat)) /\ ∃ wv_2, Stores P 3 ((⟨r, 0, none⟩ : Addr).add (i.toNat * 1)) (.int .i64 aa) a6 wv_2 /\
 (d : Int) ≠ 0 /\ ∃ ab : Int, ab = Int.tmod a9 d /\ ∃ ac : Int, ac = IntKind.wrap .i64 (i - 1) /\ a4 ab ac wv_2 /\ mu ab ac wv_2 < mu rest i a6) /\
 ((decide ((0 : Int) <= i)) = false ->
 Calls P 227 ⟨[(.slice (some ⟨r, 0, none⟩) a1 a1)]⟩ a6 fun e ae =>
 ∃ af ag ah, e = .returned (.slice af ag ah) /\
 R (.tuple #[.slice af ag ah, .int .i64 rest]) ae)
theorem impl_natSmall_ret {a : Option Addr} {a0 a1 : Nat} {d : Int} (h : impl_natSmall a a0 a1 d w R) : Ret P 136 [.slice a a0 a1, .int .i64 d] w R := Ret.of_fsem Tryz.func136 rfl (Eq.mp (show _ = fsem P Tryz.f136 (fun k => cond (Nat.beq k 5) [(7, .one (.int .i64)), (8, .one (.int .i64))] ([])) _ R w from by kernel_rfl) h)
def impl_natAdd_j1 (a0 : World) (a1 : Option Addr -> Nat -> Nat -> Int -> Int -> World -> Prop) (mu : Option Addr -> Nat -> Nat -> Int -> Int -> World -> Nat) (a2 : Option Addr) (a3 a4 : Nat) (carry i carry_2 : Int) (a5 : World) (R : Value -> World -> Prop) : Prop :=
 (1000000000 : Int) ≠ 0 /\ ∃ a6 : Int, a6 = Int.tmod carry_2 1000000000 /\ ∀ a7 a8, New a5 (.cells ⟨[.int .i64 a6]⟩ 3 (0, 0)) a7 a8 ->
 ∃ a9 aa ab ac, Appends P [22, 22] [.slice a2 a3 a4, (.slice (some ⟨a7, 0, none⟩) 1 1)] (.slice a9 aa ab) a8 ac /\
 (1000000000 : Int) ≠ 0 /\ ∃ ae : Int, ae = IntKind.wrap .i64 (Int.tdiv carry_2 1000000000) /\ ∃ af : Int, af = IntKind.wrap .i64 (i + 1) /\ a1 a9 aa ab ae af ac /\ mu a9 aa ab ae af ac < mu a2 a3 a4 carry i a0
def impl_natAdd_j0 (a0 : Option Addr) (a1 : Nat) (a2 : World) (a3 : Option Addr -> Nat -> Nat -> Int -> Int -> World -> Prop) (mu : Option Addr -> Nat -> Nat -> Int -> Int -> World -> Nat) (a4 : Option Addr) (a5 a6 : Nat) (carry i carry_1 : Int) (W : World) (R : Value -> World -> Prop) : Prop :=
 ((decide ((i : Int) < ((a1 : Nat) : Int))) = true ->
 (0 <= (i : Int) /\ (i : Int) < (a1 : Nat)) /\ ptrS a0 fun a7 => ∃ a8, Loads P 3 (a7.add (i.toNat * 1)) (.int .i64 a8) W /\ ∃ a9 : Int, a9 = IntKind.wrap .i64 (carry_1 + a8) /\ impl_natAdd_j1 a2 a3 mu a4 a5 a6 carry i a9 W R) /\
 ((decide ((i : Int) < ((a1 : Nat) : Int))) = false ->
 impl_natAdd_j1 a2 a3 mu a4 a5 a6 carry i carry_1 W R)
def impl_natAdd (a0 : Option Addr) (a1 a2 : Nat) (a3 : Option Addr) (a4 a5 : Nat) (w : World) (R : Value -> World -> Prop) : Prop :=
 ∃ a6 : Int, a6 = (if ((a4 : Nat) : Int) > ((a1 : Nat) : Int) then ((a4 : Nat) : Int) else ((a1 : Nat) : Int)) /\ ∃ a7 : Int, a7 = IntKind.wrap .i64 (a6 + 1) /\ (0 <= (0 : Int) /\ (0 : Int) <= a7 /\ ((8 : Nat) : Int) * a7 <= 281474976710656) /\
 ∀ r wv, New w (.cells ⟨zeroRow (.int .i64 0) (a7.toNat * 1)⟩ 3 (0, 0)) r wv ->
 ∃ (a8 : Option Addr -> Nat -> Nat -> Int -> Int -> World -> Prop) (mu : Option Addr -> Nat -> Nat -> Int -> Int -> World -> Nat), a8 (some ⟨r, 0, none⟩) 0 a7.toNat 0 0 wv /\
 ∀ (a9 : Fr) (aa : World) (ab : Option Addr) (ac ae : Nat) (carry i : Int), a8 ab ac ae carry i aa ->
 ∃ af : Int, af = (if ((a4 : Nat) : Int) > ((a1 : Nat) : Int) then ((a4 : Nat) : Int) else ((a1 : Nat) : Int)) /\ ((decide ((i : Int) < af)) = true ->
 ((decide ((i : Int) < ((a1 : Nat) : Int))) = true ->
 (0 <= (i : Int) /\ (i : Int) < (a1 : Nat)) /\ ptrS a0 fun ad => ∃ ag, Loads P 3 (ad.add (i.toNat * 1)) (.int .i64 ag) aa /\ ∃ ah : Int, ah = IntKind.wrap .i64 (carry + ag) /\ impl_natAdd_j0 a3 a4 aa a8 mu ab ac ae carry i ah aa R) /\
 ((decide ((i : Int) < ((a1 : Nat) : Int))) = false ->
 impl_natAdd_j0 a3 a4 aa a8 mu ab ac ae carry i carry aa R)) /\
 ((decide ((i : Int) < af)) = false ->
 ∀ ai aj, New aa (.cells ⟨[.int .i64 carry]⟩ 3 (0, 0)) ai aj ->
 ∃ ak al am an, Appends P [22, 22] [.slice ab ac ae, (.slice (some ⟨ai, 0, none⟩) 1 1)] (.slice ak al am) aj an /\
 Calls P 227 ⟨[.slice ak al am]⟩ an fun e ao =>
 ∃ ap aq ar, e = .returned (.slice ap aq ar) /\
 R (.slice ap aq ar) ao)
theorem impl_natAdd_ret {a : Option Addr} {a0 a1 : Nat} {a2 : Option Addr} {a3 a4 : Nat} (h : impl_natAdd a a0 a1 a2 a3 a4 w R) : Ret P 137 [.slice a a0 a1, .slice a2 a3 a4] w R := Ret.of_fsem Tryz.func137 rfl (Eq.mp (show _ = fsem P Tryz.f137 (fun k => cond (Nat.beq k 5) [(5, .one .slice), (6, .one (.int .i64)), (7, .one (.int .i64))] ([])) _ R w from by kernel_rfl) h)
def impl_PlanDone (a0 : Option Addr) (a1 a2 : Nat) (w : World) (R : Value -> World -> Prop) : Prop :=
 ((decide ((0 : Int) < ((a1 : Nat) : Int))) = true ->
 ∃ a3 : Int, a3 = IntKind.wrap .i64 (((a1 : Nat) : Int) - 1) /\ (0 <= (a3 : Int) /\ (a3 : Int) < (a1 : Nat)) /\ ptrS a0 fun ad => ∃ a4 a5 a6 a7 a8, Loads P 33 ((ad.add (a3.toNat * 9)).add 6) (.agg #[.string a4, .bool a5, .slice a6 a7 a8]) w /\ Calls P 134 ⟨[.agg #[.string a4, .bool a5, .slice a6 a7 a8]]⟩ w fun e wv =>
 ∃ a9, e = .returned (.bool a9) /\
 R (.bool a9) wv) /\
 ((decide ((0 : Int) < ((a1 : Nat) : Int))) = false ->
 R (.bool false) w)
theorem impl_PlanDone_ret {a : Option Addr} {a0 a1 : Nat} (h : impl_PlanDone a a0 a1 w R) : Ret P 138 [.slice a a0 a1] w R := Ret.of_fsem Tryz.func138 rfl (Eq.mp (show _ = fsem P Tryz.f138 (fun k => []) _ R w from by kernel_rfl) h)
def impl_IntOf (n : Int) (w : World) (R : Value -> World -> Prop) : Prop :=
 ∀ r wv, New w (.cells ⟨[.bool false, .slice none 0 0]⟩ 31 (0, 0)) r wv ->
 ((decide ((n : Int) < 0)) = true ->
 ∃ t6 : Int, t6 = IntKind.wrap .u64 n /\ ∃ t7 : Int, t7 = IntKind.wrap .u64 (0 - t6) /\ Calls P 228 ⟨[.int .u64 t7]⟩ wv fun e a0 =>
 ∃ a1 a2 a3, e = .returned (.slice a1 a2 a3) /\
 ∃ wv_2, Stores P 31 ⟨r, 0, none⟩ (.agg #[.bool true, .slice a1 a2 a3]) a0 wv_2 /\
 ∃ r0 a4 a5 a6, Loads P 31 ⟨r, 0, none⟩ (.agg #[.bool r0, .slice a4 a5 a6]) wv_2 /\ R (.agg #[.bool r0, .slice a4 a5 a6]) wv_2) /\
 ((decide ((n : Int) < 0)) = false ->
 ∃ a7 : Int, a7 = IntKind.wrap .u64 n /\ Calls P 228 ⟨[.int .u64 a7]⟩ wv fun a8 a9 =>
 ∃ aa ab ac, a8 = .returned (.slice aa ab ac) /\
 ∃ wv_4, Stores P 31 ⟨r, 0, none⟩ (.agg #[.bool false, .slice aa ab ac]) a9 wv_4 /\
 ∃ r0_1 ae af ag, Loads P 31 ⟨r, 0, none⟩ (.agg #[.bool r0_1, .slice ae af ag]) wv_4 /\ R (.agg #[.bool r0_1, .slice ae af ag]) wv_4)
theorem impl_IntOf_ret {n : Int} (h : impl_IntOf n w R) : Ret P 139 [.int .i64 n] w R := Ret.of_fsem Tryz.func139 rfl (Eq.mp (show _ = fsem P Tryz.f139 (fun k => []) _ R w from by kernel_rfl) h)
def spec_l09Both (m0 : ByteArray) (m1 : Bool) (a0 : Option Addr) (a1 a2 : Nat) (n0 : ByteArray) (n1 : Bool) (a3 : Option Addr) (a4 a5 : Nat) (w : World) (R : Value -> World -> Prop) : Prop :=
 ∀ r wv, New w (.cells ⟨[.string m0, .bool m1, .slice a0 a1 a2]⟩ 33 (0, 0)) r wv ->
 ∀ a6 a7, New wv (.cells ⟨[.string n0, .bool n1, .slice a3 a4 a5]⟩ 33 (0, 0)) a6 a7 ->
 ∃ a8 a9 aa ab ac, Loads P 33 ⟨r, 0, none⟩ (.agg #[.string a8, .bool a9, .slice aa ab ac]) a7 /\ Calls P 67 ⟨[.agg #[.string a8, .bool a9, .slice aa ab ac]]⟩ a7 fun e ae =>
 ∃ t6, e = .returned (.bool t6) /\
 (t6 = true ->
 ∃ af ag ah ai aj, Loads P 33 ⟨a6, 0, none⟩ (.agg #[.string af, .bool ag, .slice ah ai aj]) ae /\ Calls P 67 ⟨[.agg #[.string af, .bool ag, .slice ah ai aj]]⟩ ae fun ak al =>
 ∃ t9, ak = .returned (.bool t9) /\
 (t9 = true ->
 ∃ am, Loads P 9 ((⟨r, 0, none⟩ : Addr).add 0) (.string am) al /\ ∃ an, Loads P 9 ((⟨a6, 0, none⟩ : Addr).add 0) (.string an) al /\ R (.bool (decide (am = an))) al) /\
 (t9 = false ->
 R (.bool false) al)) /\
 (t6 = false ->
 (false = true ->
 ∃ ao, Loads P 9 ((⟨r, 0, none⟩ : Addr).add 0) (.string ao) ae /\ ∃ ap, Loads P 9 ((⟨a6, 0, none⟩ : Addr).add 0) (.string ap) ae /\ R (.bool (decide (ao = ap))) ae) /\
 (false = false ->
 R (.bool false) ae))
theorem spec_l09Both_ret {m0 : ByteArray} {m1 : Bool} {a : Option Addr} {a0 a1 : Nat} {n0 : ByteArray} {n1 : Bool} {a2 : Option Addr} {a3 a4 : Nat} (h : spec_l09Both m0 m1 a a0 a1 n0 n1 a2 a3 a4 w R) : Ret P 140 [.agg #[.string m0, .bool m1, .slice a a0 a1], .agg #[.string n0, .bool n1, .slice a2 a3 a4]] w R := Ret.of_fsem Tryz.func140 rfl (Eq.mp (show _ = fsem P Tryz.f140 (fun k => []) _ R w from by kernel_rfl) h)
def spec_IntSign (x0 : Bool) (a0 : Option Addr) (a1 a2 : Nat) (w : World) (R : Value -> World -> Prop) : Prop :=
 ∀ r wv, New w (.cells ⟨[.bool x0, .slice a0 a1 a2]⟩ 31 (0, 0)) r wv ->
 ∃ a3 a4 a5 a6, Loads P 31 ⟨r, 0, none⟩ (.agg #[.bool a3, .slice a4 a5 a6]) wv /\ Calls P 129 ⟨[.agg #[.bool a3, .slice a4 a5 a6], .agg #[.bool false, .slice none 0 0]]⟩ wv fun e a7 =>
 ∃ t5, e = .returned (.int .i64 t5) /\
 R (.int .i64 t5) a7
theorem spec_IntSign_ret {x0 : Bool} {a : Option Addr} {a0 a1 : Nat} (h : spec_IntSign x0 a a0 a1 w R) : Ret P 141 [.agg #[.bool x0, .slice a a0 a1]] w R := Ret.of_fsem Tryz.func141 rfl (Eq.mp (show _ = fsem P Tryz.f141 (fun k => []) _ R w from by kernel_rfl) h)
def spec_NextRow_j2 (a0 a1 : Nat) (a2 a3 : Nat) (a4 : World) (R : Value -> World -> Prop) : Prop :=
 ∃ a5 a6 a7 a8 a9, Loads P 33 ⟨a2, 0, none⟩ (.agg #[.string a5, .bool a6, .slice a7 a8 a9]) a4 /\ ∃ aa ab ac ae af, Loads P 33 ⟨a3, 0, none⟩ (.agg #[.string aa, .bool ab, .slice ac ae af]) a4 /\ Calls P 230 ⟨[.agg #[.string a5, .bool a6, .slice a7 a8 a9], .agg #[.string aa, .bool ab, .slice ac ae af]]⟩ a4 fun ag ah =>
 ∃ ai aj ak al am an, ag = .returned (.tuple #[.agg #[.string ai, .bool aj, .slice ak al am], .bool an]) /\
 ∀ ao ap, New ah (.cells ⟨[.string ByteArray.empty, .bool false, .slice none 0 0]⟩ 33 (0, 0)) ao ap ->
 ∃ wv_21, Stores P 33 ⟨ao, 0, none⟩ (.agg #[.string ai, .bool aj, .slice ak al am]) ap wv_21 /\
 ∃ aq ar au av aw, (∀ wv_22, Ext wv_21.drew wv_22 -> Loads P 33 ⟨a1, 0, none⟩ (.agg #[.string aq, .bool ar, .slice au av aw]) wv_22) /\ ∃ ax, (∀ wv_23, Ext wv_21.drew wv_23 -> Loads P 9 ((⟨a3, 0, none⟩ : Addr).add 0) (.string ax) wv_23) /\ ∃ ay az b0, (∀ wv_24, Ext wv_21.drew wv_24 -> Loads P 22 (((⟨a3, 0, none⟩ : Addr).add 1).add 1) (.slice ay az b0) wv_24) /\ Calls P 113 ⟨[.bool false, .slice ay az b0]⟩ wv_21.drew fun b1 b2 =>
 ∃ b3 b4 b5 b6, b1 = .returned (.agg #[.bool b3, .slice b4 b5 b6]) /\
 Ext wv_21.drew b2 /\ ∃ b7 b8 b9 ba bb, (∀ wv_26, Ext wv_21.drew wv_26 -> Loads P 33 ⟨ao, 0, none⟩ (.agg #[.string b7, .bool b8, .slice b9 ba bb]) wv_26) /\ ∃ wv_27, Stores P 172 ⟨a0, 0, none⟩ (.agg #[.string aq, .bool ar, .slice au av aw, .string ax, .bool b3, .slice b4 b5 b6, .string b7, .bool b8, .slice b9 ba bb]) b2 wv_27 /\
 ∃ r0_3 r1_2 bc bd be r3_2 r4_2 bf bg bh r6_2 r7_2 bi bj bk, Loads P 172 ⟨a0, 0, none⟩ (.agg #[.string r0_3, .bool r1_2, .slice bc bd be, .string r3_2, .bool r4_2, .slice bf bg bh, .string r6_2, .bool r7_2, .slice bi bj bk]) wv_27 /\ R (.tuple #[.agg #[.string r0_3, .bool r1_2, .slice bc bd be, .string r3_2, .bool r4_2, .slice bf bg bh, .string r6_2, .bool r7_2, .slice bi bj bk], .bool true]) wv_27
def spec_NextRow_j1 (a0 a1 : Nat) (a2 a3 : Nat) (a4 : World) (R : Value -> World -> Prop) : Prop :=
 ∃ a5 a6 a7 a8 a9, Loads P 33 ⟨a0, 0, none⟩ (.agg #[.string a5, .bool a6, .slice a7 a8 a9]) a4 /\ ∀ aa ab, New a4 (.cells ⟨[.string ByteArray.empty, .bool false, .slice none 0 0]⟩ 33 (0, 0)) aa ab ->
 ∃ wv_16, Stores P 33 ⟨aa, 0, none⟩ (.agg #[.string a5, .bool a6, .slice a7 a8 a9]) ab wv_16 /\
 ∃ ac ae af ag, Loads P 31 ((⟨a3, 0, none⟩ : Addr).add 1) (.agg #[.bool ac, .slice ae af ag]) wv_16 /\ ∃ ah ai aj ak, Loads P 31 ((⟨a0, 0, none⟩ : Addr).add 1) (.agg #[.bool ah, .slice ai aj ak]) wv_16 /\ Calls P 129 ⟨[.agg #[.bool ac, .slice ae af ag], .agg #[.bool ah, .slice ai aj ak]]⟩ wv_16 fun al am =>
 ∃ an, al = .returned (.int .i64 an) /\
 ((decide ((an : Int) < 0)) = true ->
 ∃ ao ap aq ar au, Loads P 33 ⟨a3, 0, none⟩ (.agg #[.string ao, .bool ap, .slice aq ar au]) am /\ ∃ wv_18, Stores P 33 ⟨aa, 0, none⟩ (.agg #[.string ao, .bool ap, .slice aq ar au]) am wv_18 /\
 spec_NextRow_j2 a1 a2 a3 aa wv_18 R) /\
 ((decide ((an : Int) < 0)) = false ->
 spec_NextRow_j2 a1 a2 a3 aa am R)
def spec_NextRow_j0 (mode : Int) (r a0 : Nat) (a1 a2 : Nat) (W : World) (R : Value -> World -> Prop) : Prop :=
 ∃ a3 a4 a5 a6 a7, Loads P 33 ⟨r, 0, none⟩ (.agg #[.string a3, .bool a4, .slice a5 a6 a7]) W /\ ∃ a8 a9 aa ab ac, Loads P 63 ⟨a0, 0, none⟩ (.agg #[.bool a8, .slice a9 aa ab, .int .i64 ac]) W /\ Calls P 114 ⟨[.agg #[.string a3, .bool a4, .slice a5 a6 a7], .agg #[.bool a8, .slice a9 aa ab, .int .i64 ac], .int .i64 mode]⟩ W fun ae af =>
 ∃ ag ah ai aj ak al am an ao ap aq ar au, ae = .returned (.tuple #[.agg #[.string ag, .bool ah, .slice ai aj ak], .agg #[.bool al, .slice am an ao, .slice ap aq ar], .bool au]) /\
 ∀ av aw, New af (.cells ⟨[.string ByteArray.empty, .bool false, .slice none 0 0]⟩ 33 (0, 0)) av aw ->
 ∀ ax ay, New aw (.cells ⟨[.bool false, .slice none 0 0, .slice none 0 0]⟩ 53 (0, 0)) ax ay ->
 ∃ wv_9, Stores P 33 ⟨av, 0, none⟩ (.agg #[.string ag, .bool ah, .slice ai aj ak]) ay wv_9 /\
 ∃ wv_10, Stores P 53 ⟨ax, 0, none⟩ (.agg #[.bool al, .slice am an ao, .slice ap aq ar]) wv_9 wv_10 /\
 ∃ az b0 b1 b2 b3, Loads P 33 ⟨r, 0, none⟩ (.agg #[.string az, .bool b0, .slice b1 b2 b3]) wv_10 /\ ∃ b4 b5 b6 b7 b8, Loads P 33 ⟨av, 0, none⟩ (.agg #[.string b4, .bool b5, .slice b6 b7 b8]) wv_10 /\ Calls P 229 ⟨[.agg #[.string az, .bool b0, .slice b1 b2 b3], .agg #[.string b4, .bool b5, .slice b6 b7 b8]]⟩ wv_10 fun b9 ba =>
 ∃ bb bc bd be bf bg, b9 = .returned (.tuple #[.agg #[.string bb, .bool bc, .slice bd be bf], .bool bg]) /\
 ∀ bh bi, New ba (.cells ⟨[.string ByteArray.empty, .bool false, .slice none 0 0]⟩ 33 (0, 0)) bh bi ->
 ∃ wv_13, Stores P 33 ⟨bh, 0, none⟩ (.agg #[.string bb, .bool bc, .slice bd be bf]) bi wv_13 /\
 ((!au) = true ->
 (true = true ->
 ∃ wv_14, Stores P 172 ⟨a2, 0, none⟩ (.agg #[.string ByteArray.empty, .bool false, .slice none 0 0, .string ByteArray.empty, .bool false, .slice none 0 0, .string ByteArray.empty, .bool false, .slice none 0 0]) wv_13 wv_14 /\
 ∃ r0_2 r1_1 bj bk bl r3_1 r4_1 bm bn bo r6_1 r7_1 bp bq br, Loads P 172 ⟨a2, 0, none⟩ (.agg #[.string r0_2, .bool r1_1, .slice bj bk bl, .string r3_1, .bool r4_1, .slice bm bn bo, .string r6_1, .bool r7_1, .slice bp bq br]) wv_14 /\ R (.tuple #[.agg #[.string r0_2, .bool r1_1, .slice bj bk bl, .string r3_1, .bool r4_1, .slice bm bn bo, .string r6_1, .bool r7_1, .slice bp bq br], .bool false]) wv_14) /\
 (true = false ->
 spec_NextRow_j1 a1 a2 av bh wv_13 R)) /\
 ((!au) = false ->
 ((!bg) = true ->
 ∃ wv_28, Stores P 172 ⟨a2, 0, none⟩ (.agg #[.string ByteArray.empty, .bool false, .slice none 0 0, .string ByteArray.empty, .bool false, .slice none 0 0, .string ByteArray.empty, .bool false, .slice none 0 0]) wv_13 wv_28 /\
 ∃ r0_4 r1_3 bs bt bu r3_3 r4_3 bv bw bx r6_3 r7_3 bz c0 c1, Loads P 172 ⟨a2, 0, none⟩ (.agg #[.string r0_4, .bool r1_3, .slice bs bt bu, .string r3_3, .bool r4_3, .slice bv bw bx, .string r6_3, .bool r7_3, .slice bz c0 c1]) wv_28 /\ R (.tuple #[.agg #[.string r0_4, .bool r1_3, .slice bs bt bu, .string r3_3, .bool r4_3, .slice bv bw bx, .string r6_3, .bool r7_3, .slice bz c0 c1], .bool false]) wv_28) /\
 ((!bg) = false ->
 spec_NextRow_j1 a1 a2 av bh wv_13 R))
abbrev spec_NextRow_z0 (q : Nat) (x : World) (R : Value -> World -> Prop) : Prop :=
 ∃ y, Stores P 172 ⟨q, 0, none⟩ (.agg #[.string ByteArray.empty, .bool false, .slice none 0 0, .string ByteArray.empty, .bool false, .slice none 0 0, .string ByteArray.empty, .bool false, .slice none 0 0]) x y /\ ∃ r0_1 r1 au av aw r3 r4 ax ay az r6 r7 b0 b1 b2, Loads P 172 ⟨q, 0, none⟩ (.agg #[.string r0_1, .bool r1, .slice au av aw, .string r3, .bool r4, .slice ax ay az, .string r6, .bool r7, .slice b0 b1 b2]) y /\ R (.tuple #[.agg #[.string r0_1, .bool r1, .slice au av aw, .string r3, .bool r4, .slice ax ay az, .string r6, .bool r7, .slice b0 b1 b2], .bool false]) y
def spec_NextRow (left0 : ByteArray) (left1 : Bool) (a0 : Option Addr) (a1 a2 : Nat) (r0 : Bool) (a3 : Option Addr) (a4 a5 : Nat) (r2 : Int) (pay0 : ByteArray) (pay1 : Bool) (a6 : Option Addr) (a7 a8 : Nat) (mode : Int) (w : World) (R : Value -> World -> Prop) : Prop :=
 ∀ r wv, New w (.cells ⟨[.string left0, .bool left1, .slice a0 a1 a2]⟩ 33 (0, 0)) r wv ->
 ∀ a9 aa, New wv (.cells ⟨[.bool r0, .slice a3 a4 a5, .int .i64 r2]⟩ 63 (0, 0)) a9 aa ->
 ∀ ab ac, New aa (.cells ⟨[.string pay0, .bool pay1, .slice a6 a7 a8]⟩ 33 (0, 0)) ab ac ->
 ∀ ae af, New ac (.cells ⟨[.string ByteArray.empty, .bool false, .slice none 0 0, .string ByteArray.empty, .bool false, .slice none 0 0, .string ByteArray.empty, .bool false, .slice none 0 0]⟩ 172 (0, 0)) ae af ->
 ∃ ag ah ai aj ak, Loads P 33 ⟨r, 0, none⟩ (.agg #[.string ag, .bool ah, .slice ai aj ak]) af /\ ∃ al am an ao ap, Loads P 33 ⟨ab, 0, none⟩ (.agg #[.string al, .bool am, .slice an ao ap]) af /\ Calls P 140 ⟨[.agg #[.string ag, .bool ah, .slice ai aj ak], .agg #[.string al, .bool am, .slice an ao ap]]⟩ af fun e aq =>
 ∃ ar, e = .returned (.bool ar) /\
 ((!ar) = true ->
 (true = true ->
 (true = true ->
 spec_NextRow_z0 ae aq R) /\
 (true = false ->
 spec_NextRow_j0 mode r a9 ab ae aq R)) /\
 (true = false ->
 ∃ b3, Loads P 4 (((⟨ab, 0, none⟩ : Addr).add 1).add 0) (.bool b3) aq /\ (b3 = true ->
 spec_NextRow_z0 ae aq R) /\
 (b3 = false ->
 spec_NextRow_j0 mode r a9 ab ae aq R))) /\
 ((!ar) = false ->
 ∃ bd, Loads P 4 (((⟨r, 0, none⟩ : Addr).add 1).add 0) (.bool bd) aq /\ (bd = true ->
 (true = true ->
 spec_NextRow_z0 ae aq R) /\
 (true = false ->
 spec_NextRow_j0 mode r a9 ab ae aq R)) /\
 (bd = false ->
 ∃ bn, Loads P 4 (((⟨ab, 0, none⟩ : Addr).add 1).add 0) (.bool bn) aq /\ (bn = true ->
 spec_NextRow_z0 ae aq R) /\
 (bn = false ->
 spec_NextRow_j0 mode r a9 ab ae aq R)))
theorem spec_NextRow_ret {a : ByteArray} {a0 : Bool} {a1 : Option Addr} {a2 a3 : Nat} {r0 : Bool} {a4 : Option Addr} {a5 a6 : Nat} {r2 : Int} {a7 : ByteArray} {a8 : Bool} {a9 : Option Addr} {b b0 : Nat} {b1 : Int} (h : spec_NextRow a a0 a1 a2 a3 r0 a4 a5 a6 r2 a7 a8 a9 b b0 b1 w R) : Ret P 142 [.agg #[.string a, .bool a0, .slice a1 a2 a3], .agg #[.bool r0, .slice a4 a5 a6, .int .i64 r2], .agg #[.string a7, .bool a8, .slice a9 b b0], .int .i64 b1] w R := Ret.of_fsem Tryz.func142 rfl (Eq.mp (show _ = fsem P Tryz.f142 (fun k => []) _ R w from by kernel_rfl) h)
def impl_alike (m0 : ByteArray) (m1 : Bool) (a0 : Option Addr) (a1 a2 : Nat) (n0 : ByteArray) (n1 : Bool) (a3 : Option Addr) (a4 a5 : Nat) (w : World) (R : Value -> World -> Prop) : Prop :=
 ∀ r wv, New w (.cells ⟨[.string m0, .bool m1, .slice a0 a1 a2]⟩ 33 (0, 0)) r wv ->
 ∀ a6 a7, New wv (.cells ⟨[.string n0, .bool n1, .slice a3 a4 a5]⟩ 33 (0, 0)) a6 a7 ->
 ∃ a8 a9 aa ab ac, Loads P 33 ⟨r, 0, none⟩ (.agg #[.string a8, .bool a9, .slice aa ab ac]) a7 /\ Calls P 69 ⟨[.agg #[.string a8, .bool a9, .slice aa ab ac]]⟩ a7 fun e ae =>
 ∃ t6, e = .returned (.bool t6) /\
 (t6 = true ->
 ∃ af ag ah ai aj, Loads P 33 ⟨a6, 0, none⟩ (.agg #[.string af, .bool ag, .slice ah ai aj]) ae /\ Calls P 69 ⟨[.agg #[.string af, .bool ag, .slice ah ai aj]]⟩ ae fun ak al =>
 ∃ t9, ak = .returned (.bool t9) /\
 (t9 = true ->
 ∃ am, Loads P 9 ((⟨r, 0, none⟩ : Addr).add 0) (.string am) al /\ ∃ an, Loads P 9 ((⟨a6, 0, none⟩ : Addr).add 0) (.string an) al /\ R (.bool (decide (am = an))) al) /\
 (t9 = false ->
 R (.bool false) al)) /\
 (t6 = false ->
 (false = true ->
 ∃ ao, Loads P 9 ((⟨r, 0, none⟩ : Addr).add 0) (.string ao) ae /\ ∃ ap, Loads P 9 ((⟨a6, 0, none⟩ : Addr).add 0) (.string ap) ae /\ R (.bool (decide (ao = ap))) ae) /\
 (false = false ->
 R (.bool false) ae))
theorem impl_alike_ret {m0 : ByteArray} {m1 : Bool} {a : Option Addr} {a0 a1 : Nat} {n0 : ByteArray} {n1 : Bool} {a2 : Option Addr} {a3 a4 : Nat} (h : impl_alike m0 m1 a a0 a1 n0 n1 a2 a3 a4 w R) : Ret P 143 [.agg #[.string m0, .bool m1, .slice a a0 a1], .agg #[.string n0, .bool n1, .slice a2 a3 a4]] w R := Ret.of_fsem Tryz.func143 rfl (Eq.mp (show _ = fsem P Tryz.f143 (fun k => []) _ R w from by kernel_rfl) h)
def impl_moneyCopy (m0 : ByteArray) (m1 : Bool) (a0 : Option Addr) (a1 a2 : Nat) (w : World) (R : Value -> World -> Prop) : Prop :=
 ∀ r wv, New w (.cells ⟨[.string m0, .bool m1, .slice a0 a1 a2]⟩ 33 (0, 0)) r wv ->
 ∀ a3 a4, New wv (.cells ⟨[.string ByteArray.empty, .bool false, .slice none 0 0]⟩ 33 (0, 0)) a3 a4 ->
 ∃ a5 a6 a7, Loads P 22 (((⟨r, 0, none⟩ : Addr).add 1).add 1) (.slice a5 a6 a7) a4 /\ (0 <= (((a6 : Nat) : Int) : Int) /\ (((a6 : Nat) : Int) : Int) <= ((a6 : Nat) : Int) /\ ((8 : Nat) : Int) * ((a6 : Nat) : Int) <= 281474976710656) /\
 ∀ a8 a9, New a4 (.cells ⟨zeroRow (.int .i64 0) (a6 * 1)⟩ 3 (0, 0)) a8 a9 ->
 ∃ aa ab ac, Loads P 22 (((⟨r, 0, none⟩ : Addr).add 1).add 1) (.slice aa ab ac) a9 /\ ∃ ae af, Copies P [22, 22] [(.slice (some ⟨a8, 0, none⟩) a6 a6), .slice aa ab ac] (.int .i64 ae) a9 af /\
 ∃ ag, (∀ wv_4, Ext af.drew wv_4 -> Loads P 9 ((⟨r, 0, none⟩ : Addr).add 0) (.string ag) wv_4) /\ ∃ ah, (∀ wv_5, Ext af.drew wv_5 -> Loads P 4 (((⟨r, 0, none⟩ : Addr).add 1).add 0) (.bool ah) wv_5) /\ (0 <= (((a6 : Nat) : Int) : Int) /\ (((a6 : Nat) : Int) : Int) <= (a6 : Nat)) /\ (0 <= (((a6 : Nat) : Int) : Int) /\ (((a6 : Nat) : Int) : Int) <= (a6 : Nat)) /\ ∃ wv_6, Stores P 33 ⟨a3, 0, none⟩ (.agg #[.string ag, .bool ah, (.slice (sub (some ⟨a8, 0, none⟩) 0 a6 1) (a6 - 0) (a6 - 0))]) af.drew wv_6 /\
 ∃ r0 r1 ai aj ak, Loads P 33 ⟨a3, 0, none⟩ (.agg #[.string r0, .bool r1, .slice ai aj ak]) wv_6 /\ R (.agg #[.string r0, .bool r1, .slice ai aj ak]) wv_6
theorem impl_moneyCopy_ret {m0 : ByteArray} {m1 : Bool} {a : Option Addr} {a0 a1 : Nat} (h : impl_moneyCopy m0 m1 a a0 a1 w R) : Ret P 145 [.agg #[.string m0, .bool m1, .slice a a0 a1]] w R := Ret.of_fsem Tryz.func145 rfl (Eq.mp (show _ = fsem P Tryz.f145 (fun k => []) _ R w from by kernel_rfl) h)
def spec_RatRound (r0 : Bool) (a0 : Option Addr) (a1 a2 : Nat) (a3 : Option Addr) (a4 a5 : Nat) (m : Int) (w : World) (R : Value -> World -> Prop) : Prop :=
 ∀ r wv, New w (.cells ⟨[.bool r0, .slice a0 a1 a2, .slice a3 a4 a5]⟩ 53 (0, 0)) r wv ->
 ∀ a6 a7, New wv (.cells ⟨[.bool false, .slice none 0 0]⟩ 31 (0, 0)) a6 a7 ->
 ∃ a8 a9 aa ab ac ae af, Loads P 53 ⟨r, 0, none⟩ (.agg #[.bool a8, .slice a9 aa ab, .slice ac ae af]) a7 /\ Calls P 174 ⟨[.agg #[.bool a8, .slice a9 aa ab, .slice ac ae af]]⟩ a7 fun e ag =>
 ∃ t7, e = .returned (.bool t7) /\
 ((!t7) = true ->
 (true = true ->
 ∃ wv_3, Stores P 31 ⟨a6, 0, none⟩ (.agg #[.bool false, .slice none 0 0]) ag wv_3 /\
 ∃ r0_1 ah ai aj, Loads P 31 ⟨a6, 0, none⟩ (.agg #[.bool r0_1, .slice ah ai aj]) wv_3 /\ R (.tuple #[.agg #[.bool r0_1, .slice ah ai aj], .bool false]) wv_3) /\
 (true = false ->
 ∃ ak al am an ao ap aq, Loads P 53 ⟨r, 0, none⟩ (.agg #[.bool ak, .slice al am an, .slice ao ap aq]) ag /\ Calls P 233 ⟨[.agg #[.bool ak, .slice al am an, .slice ao ap aq], .int .i64 m]⟩ ag fun ar au =>
 ∃ av aw ax ay, ar = .returned (.agg #[.bool av, .slice aw ax ay]) /\
 ∃ wv_5, Stores P 31 ⟨a6, 0, none⟩ (.agg #[.bool av, .slice aw ax ay]) au wv_5 /\
 ∃ r0_2 az b0 b1, Loads P 31 ⟨a6, 0, none⟩ (.agg #[.bool r0_2, .slice az b0 b1]) wv_5 /\ R (.tuple #[.agg #[.bool r0_2, .slice az b0 b1], .bool true]) wv_5)) /\
 ((!t7) = false ->
 Calls P 126 ⟨[.int .i64 m]⟩ ag fun b2 b3 =>
 ∃ b4, b2 = .returned (.bool b4) /\
 ((!b4) = true ->
 ∃ wv_7, Stores P 31 ⟨a6, 0, none⟩ (.agg #[.bool false, .slice none 0 0]) b3 wv_7 /\
 ∃ r0_3 b5 b6 b7, Loads P 31 ⟨a6, 0, none⟩ (.agg #[.bool r0_3, .slice b5 b6 b7]) wv_7 /\ R (.tuple #[.agg #[.bool r0_3, .slice b5 b6 b7], .bool false]) wv_7) /\
 ((!b4) = false ->
 ∃ b8 b9 ba bb bc bd be, Loads P 53 ⟨r, 0, none⟩ (.agg #[.bool b8, .slice b9 ba bb, .slice bc bd be]) b3 /\ Calls P 233 ⟨[.agg #[.bool b8, .slice b9 ba bb, .slice bc bd be], .int .i64 m]⟩ b3 fun bf bg =>
 ∃ bh bi bj bk, bf = .returned (.agg #[.bool bh, .slice bi bj bk]) /\
 ∃ wv_9, Stores P 31 ⟨a6, 0, none⟩ (.agg #[.bool bh, .slice bi bj bk]) bg wv_9 /\
 ∃ r0_4 bl bm bn, Loads P 31 ⟨a6, 0, none⟩ (.agg #[.bool r0_4, .slice bl bm bn]) wv_9 /\ R (.tuple #[.agg #[.bool r0_4, .slice bl bm bn], .bool true]) wv_9))
theorem spec_RatRound_ret {r0 : Bool} {a : Option Addr} {a0 a1 : Nat} {a2 : Option Addr} {a3 a4 : Nat} {m : Int} (h : spec_RatRound r0 a a0 a1 a2 a3 a4 m w R) : Ret P 148 [.agg #[.bool r0, .slice a a0 a1, .slice a2 a3 a4], .int .i64 m] w R := Ret.of_fsem Tryz.func148 rfl (Eq.mp (show _ = fsem P Tryz.f148 (fun k => []) _ R w from by kernel_rfl) h)
end Go.Proofs.YtfehpaekbbmkcaaGreatDoor
namespace Go.Proofs.YtfehpaekbbmkcaaGreatDoor
variable {w : World} {R : Value -> World -> Prop}
open Go Go.Proofs.YtfehpaekbbmkcaaGreatDoor.Sx
set_option maxRecDepth 100000
def spec_IntOk (x0 : Bool) (a0 : Option Addr) (a1 a2 : Nat) (w : World) (R : Value -> World -> Prop) : Prop :=
 ∀ r wv, New w (.cells ⟨[.bool x0, .slice a0 a1 a2]⟩ 31 (0, 0)) r wv ->
 ∃ a3 a4 a5, Loads P 22 ((⟨r, 0, none⟩ : Addr).add 1) (.slice a3 a4 a5) wv /\ Calls P 223 ⟨[.slice a3 a4 a5]⟩ wv fun e a6 =>
 ∃ t5, e = .returned (.bool t5) /\
 (t5 = true ->
 ∃ t8, Loads P 4 ((⟨r, 0, none⟩ : Addr).add 0) (.bool t8) a6 /\ ((!t8) = true ->
 R (.bool true) a6) /\
 ((!t8) = false ->
 ∃ a7 a8 a9, Loads P 22 ((⟨r, 0, none⟩ : Addr).add 1) (.slice a7 a8 a9) a6 /\ R (.bool (decide ((0 : Int) < ((a8 : Nat) : Int)))) a6)) /\
 (t5 = false ->
 R (.bool false) a6)
theorem spec_IntOk_ret {x0 : Bool} {a : Option Addr} {a0 a1 : Nat} (h : spec_IntOk x0 a a0 a1 w R) : Ret P 151 [.agg #[.bool x0, .slice a a0 a1]] w R := Ret.of_fsem Tryz.func151 rfl (Eq.mp (show _ = fsem P Tryz.f151 (fun k => []) _ R w from by kernel_rfl) h)
def spec_IntSub (x0 : Bool) (a0 : Option Addr) (a1 a2 : Nat) (y0 : Bool) (a3 : Option Addr) (a4 a5 : Nat) (w : World) (R : Value -> World -> Prop) : Prop :=
 ∀ r wv, New w (.cells ⟨[.bool x0, .slice a0 a1 a2]⟩ 31 (0, 0)) r wv ->
 ∀ a6 a7, New wv (.cells ⟨[.bool y0, .slice a3 a4 a5]⟩ 31 (0, 0)) a6 a7 ->
 ∀ a8 a9, New a7 (.cells ⟨[.bool false, .slice none 0 0]⟩ 31 (0, 0)) a8 a9 ->
 ∃ aa ab ac ae, Loads P 31 ⟨r, 0, none⟩ (.agg #[.bool aa, .slice ab ac ae]) a9 /\ Calls P 151 ⟨[.agg #[.bool aa, .slice ab ac ae]]⟩ a9 fun e af =>
 ∃ t6, e = .returned (.bool t6) /\
 ((!t6) = true ->
 (true = true ->
 ∃ wv_4, Stores P 31 ⟨a8, 0, none⟩ (.agg #[.bool false, .slice none 0 0]) af wv_4 /\
 ∃ r0 ag ah ai, Loads P 31 ⟨a8, 0, none⟩ (.agg #[.bool r0, .slice ag ah ai]) wv_4 /\ R (.agg #[.bool r0, .slice ag ah ai]) wv_4) /\
 (true = false ->
 ∃ aj ak al am, (∀ wv_5, Ext af.drew wv_5 -> Loads P 31 ⟨r, 0, none⟩ (.agg #[.bool aj, .slice ak al am]) wv_5) /\ ∃ an ao ap aq, (∀ wv_6, Ext af.drew wv_6 -> Loads P 31 ⟨a6, 0, none⟩ (.agg #[.bool an, .slice ao ap aq]) wv_6) /\ Calls P 237 ⟨[.agg #[.bool an, .slice ao ap aq]]⟩ af.drew fun ar au =>
 ∃ av aw ax ay, ar = .returned (.agg #[.bool av, .slice aw ax ay]) /\
 Ext af.drew au /\ Calls P 176 ⟨[.agg #[.bool aj, .slice ak al am], .agg #[.bool av, .slice aw ax ay]]⟩ au fun az b0 =>
 ∃ b1 b2 b3 b4, az = .returned (.agg #[.bool b1, .slice b2 b3 b4]) /\
 ∃ wv_9, Stores P 31 ⟨a8, 0, none⟩ (.agg #[.bool b1, .slice b2 b3 b4]) b0 wv_9 /\
 ∃ r0_1 b5 b6 b7, Loads P 31 ⟨a8, 0, none⟩ (.agg #[.bool r0_1, .slice b5 b6 b7]) wv_9 /\ R (.agg #[.bool r0_1, .slice b5 b6 b7]) wv_9)) /\
 ((!t6) = false ->
 ∃ b8 b9 ba bb, Loads P 31 ⟨a6, 0, none⟩ (.agg #[.bool b8, .slice b9 ba bb]) af /\ Calls P 151 ⟨[.agg #[.bool b8, .slice b9 ba bb]]⟩ af fun bc bd =>
 ∃ be, bc = .returned (.bool be) /\
 ((!be) = true ->
 ∃ wv_11, Stores P 31 ⟨a8, 0, none⟩ (.agg #[.bool false, .slice none 0 0]) bd wv_11 /\
 ∃ r0_2 bf bg bh, Loads P 31 ⟨a8, 0, none⟩ (.agg #[.bool r0_2, .slice bf bg bh]) wv_11 /\ R (.agg #[.bool r0_2, .slice bf bg bh]) wv_11) /\
 ((!be) = false ->
 ∃ bi bj bk bl, (∀ wv_12, Ext bd.drew wv_12 -> Loads P 31 ⟨r, 0, none⟩ (.agg #[.bool bi, .slice bj bk bl]) wv_12) /\ ∃ bm bn bo bp, (∀ wv_13, Ext bd.drew wv_13 -> Loads P 31 ⟨a6, 0, none⟩ (.agg #[.bool bm, .slice bn bo bp]) wv_13) /\ Calls P 237 ⟨[.agg #[.bool bm, .slice bn bo bp]]⟩ bd.drew fun bq br =>
 ∃ bs bt bu bv, bq = .returned (.agg #[.bool bs, .slice bt bu bv]) /\
 Ext bd.drew br /\ Calls P 176 ⟨[.agg #[.bool bi, .slice bj bk bl], .agg #[.bool bs, .slice bt bu bv]]⟩ br fun bw bx =>
 ∃ bz c0 c1 c2, bw = .returned (.agg #[.bool bz, .slice c0 c1 c2]) /\
 ∃ wv_16, Stores P 31 ⟨a8, 0, none⟩ (.agg #[.bool bz, .slice c0 c1 c2]) bx wv_16 /\
 ∃ r0_3 c3 c4 c5, Loads P 31 ⟨a8, 0, none⟩ (.agg #[.bool r0_3, .slice c3 c4 c5]) wv_16 /\ R (.agg #[.bool r0_3, .slice c3 c4 c5]) wv_16))
theorem spec_IntSub_ret {x0 : Bool} {a : Option Addr} {a0 a1 : Nat} {y0 : Bool} {a2 : Option Addr} {a3 a4 : Nat} (h : spec_IntSub x0 a a0 a1 y0 a2 a3 a4 w R) : Ret P 154 [.agg #[.bool x0, .slice a a0 a1], .agg #[.bool y0, .slice a2 a3 a4]] w R := Ret.of_fsem Tryz.func154 rfl (Eq.mp (show _ = fsem P Tryz.f154 (fun k => []) _ R w from by kernel_rfl) h)
def impl_IntOk (x0 : Bool) (a0 : Option Addr) (a1 a2 : Nat) (w : World) (R : Value -> World -> Prop) : Prop :=
 ∀ r wv, New w (.cells ⟨[.bool x0, .slice a0 a1 a2]⟩ 31 (0, 0)) r wv ->
 ∃ a3 a4 a5, Loads P 22 ((⟨r, 0, none⟩ : Addr).add 1) (.slice a3 a4 a5) wv /\ Calls P 180 ⟨[.slice a3 a4 a5]⟩ wv fun e a6 =>
 ∃ t5, e = .returned (.bool t5) /\
 (t5 = true ->
 ∃ t8, Loads P 4 ((⟨r, 0, none⟩ : Addr).add 0) (.bool t8) a6 /\ ((!t8) = true ->
 R (.bool true) a6) /\
 ((!t8) = false ->
 ∃ a7 a8 a9, Loads P 22 ((⟨r, 0, none⟩ : Addr).add 1) (.slice a7 a8 a9) a6 /\ R (.bool (decide ((0 : Int) < ((a8 : Nat) : Int)))) a6)) /\
 (t5 = false ->
 R (.bool false) a6)
theorem impl_IntOk_ret {x0 : Bool} {a : Option Addr} {a0 a1 : Nat} (h : impl_IntOk x0 a a0 a1 w R) : Ret P 158 [.agg #[.bool x0, .slice a a0 a1]] w R := Ret.of_fsem Tryz.func158 rfl (Eq.mp (show _ = fsem P Tryz.f158 (fun k => []) _ R w from by kernel_rfl) h)
def impl_NatOf (n : Int) (w : World) (R : Value -> World -> Prop) : Prop :=
 ((decide ((n : Int) < 0)) = true ->
 R (.slice none 0 0) w) /\
 ((decide ((n : Int) < 0)) = false ->
 ∃ t6 : Int, t6 = IntKind.wrap .u64 n /\ Calls P 228 ⟨[.int .u64 t6]⟩ w fun e wv =>
 ∃ a0 a1 a2, e = .returned (.slice a0 a1 a2) /\
 R (.slice a0 a1 a2) wv)
theorem impl_NatOf_ret {n : Int} (h : impl_NatOf n w R) : Ret P 160 [.int .i64 n] w R := Ret.of_fsem Tryz.func160 rfl (Eq.mp (show _ = fsem P Tryz.f160 (fun k => []) _ R w from by kernel_rfl) h)
def impl_natCopy (a0 : Option Addr) (a1 a2 : Nat) (w : World) (R : Value -> World -> Prop) : Prop :=
 ∀ r wv, New w (.cells ⟨[]⟩ 3 (0, 0)) r wv ->
 ∃ a3 a4 a5 a6, Appends P [22, 22] [(.slice (some ⟨r, 0, none⟩) 0 0), .slice a0 a1 a2] (.slice a3 a4 a5) wv a6 /\
 R (.slice a3 a4 a5) a6
theorem impl_natCopy_ret {a : Option Addr} {a0 a1 : Nat} (h : impl_natCopy a a0 a1 w R) : Ret P 162 [.slice a a0 a1] w R := Ret.of_fsem Tryz.func162 rfl (Eq.mp (show _ = fsem P Tryz.f162 (fun k => []) _ R w from by kernel_rfl) h)
def impl_natDiv (a0 : Option Addr) (a1 a2 : Nat) (a3 : Option Addr) (a4 a5 : Nat) (w : World) (R : Value -> World -> Prop) : Prop :=
 Calls P 170 ⟨[.slice a0 a1 a2, .slice a3 a4 a5]⟩ w fun e wv =>
 ∃ a6, e = .returned (.int .i64 a6) /\
 ((decide ((a6 : Int) < 0)) = true ->
 ∀ r a7, New wv (.cells ⟨[]⟩ 3 (0, 0)) r a7 ->
 Calls P 162 ⟨[.slice a0 a1 a2]⟩ a7 fun a8 a9 =>
 ∃ aa ab ac, a8 = .returned (.slice aa ab ac) /\
 R (.tuple #[(.slice (some ⟨r, 0, none⟩) 0 0), .slice aa ab ac]) a9) /\
 ((decide ((a6 : Int) < 0)) = false ->
 ((decide ((((a4 : Nat) : Int) : Int) = 1)) = true ->
 (0 <= (0 : Int) /\ (0 : Int) < (a4 : Nat)) /\ ptrS a3 fun ad => ∃ ae, Loads P 3 (ad.add (0 * 1)) (.int .i64 ae) wv /\ Calls P 136 ⟨[.slice a0 a1 a2, .int .i64 ae]⟩ wv fun af ag =>
 ∃ ah ai aj ak, af = .returned (.tuple #[.slice ah ai aj, .int .i64 ak]) /\
 Calls P 160 ⟨[.int .i64 ak]⟩ ag fun al am =>
 ∃ an ao ap, al = .returned (.slice an ao ap) /\
 R (.tuple #[.slice ah ai aj, .slice an ao ap]) am) /\
 ((decide ((((a4 : Nat) : Int) : Int) = 1)) = false ->
 ∃ aq : Int, aq = IntKind.wrap .i64 (((a4 : Nat) : Int) - 1) /\ (0 <= (aq : Int) /\ (aq : Int) < (a4 : Nat)) /\ ptrS a3 fun ar => ∃ au, Loads P 3 (ar.add (aq.toNat * 1)) (.int .i64 au) wv /\ ∃ av : Int, av = IntKind.wrap .i64 (au + 1) /\ (av : Int) ≠ 0 /\ ∃ aw : Int, aw = IntKind.wrap .i64 (Int.tdiv 1000000000 av) /\ ∀ ax ay, New wv (.cells ⟨[.int .i64 aw]⟩ 3 (0, 0)) ax ay ->
 Calls P 165 ⟨[.slice a0 a1 a2, (.slice (some ⟨ax, 0, none⟩) 1 1)]⟩ ay fun az b0 =>
 ∃ b1 b2 b3, az = .returned (.slice b1 b2 b3) /\
 ∀ b4 b5, New b0 (.cells ⟨[.int .i64 aw]⟩ 3 (0, 0)) b4 b5 ->
 Calls P 165 ⟨[.slice a3 a4 a5, (.slice (some ⟨b4, 0, none⟩) 1 1)]⟩ b5 fun b6 b7 =>
 ∃ b8 b9 ba, b6 = .returned (.slice b8 b9 ba) /\
 ∃ (bb : Option Addr -> Nat -> Nat -> World -> Prop) (mu : Option Addr -> Nat -> Nat -> World -> Nat), bb b1 b2 b3 b7 /\
 ∀ (bc : Fr) (bd : World) (be : Option Addr) (bf bg : Nat), bb be bf bg bd ->
 ((decide ((((bf : Nat) : Int) : Int) <= ((a1 : Nat) : Int))) = true ->
 ∀ bh bi, New bd (.cells ⟨[.int .i64 0]⟩ 3 (0, 0)) bh bi ->
 ∃ bj bk bl bm, Appends P [22, 22] [.slice be bf bg, (.slice (some ⟨bh, 0, none⟩) 1 1)] (.slice bj bk bl) bi bm /\
 bb bj bk bl bm /\ mu bj bk bl bm < mu be bf bg bd) /\
 ((decide ((((bf : Nat) : Int) : Int) <= ((a1 : Nat) : Int))) = false ->
 ∃ bn : Int, bn = IntKind.wrap .i64 (((bf : Nat) : Int) - ((b9 : Nat) : Int)) /\ (0 <= (bn : Int) /\ (bn : Int) <= bn /\ ((8 : Nat) : Int) * bn <= 281474976710656) /\
 ∀ bo bp, New bd (.cells ⟨zeroRow (.int .i64 0) (bn.toNat * 1)⟩ 3 (0, 0)) bo bp ->
 ∃ bq : Int, bq = IntKind.wrap .i64 (((bn.toNat : Nat) : Int) - 1) /\ ∃ (br : Int -> World -> Prop) (bs : Int -> World -> Nat), br bq bp /\
 ∀ (bt : Fr) (bu : World) (j : Int), br j bu ->
 ((decide ((0 : Int) <= j)) = true ->
 ∃ bv : Int, bv = IntKind.wrap .i64 (j + ((b9 : Nat) : Int)) /\ ∃ bw : Int, bw = IntKind.wrap .i64 (bv + 1) /\ (0 <= (bw : Int) /\ (bw : Int) <= (bg : Nat)) /\ (0 <= (j : Int) /\ (j : Int) <= (bw.toNat : Nat)) /\ Calls P 238 ⟨[(.slice (sub be j.toNat bg 1) (bw.toNat - j.toNat) (bg - j.toNat)), .slice b8 b9 ba]⟩ bu fun bx bz =>
 ∃ c0, bx = .returned (.int .i64 c0) /\
 (0 <= (j : Int) /\ (j : Int) < (bn.toNat : Nat)) /\ ∃ wv_15, Stores P 3 ((⟨bo, 0, none⟩ : Addr).add (j.toNat * 1)) (.int .i64 c0) bz wv_15 /\
 ∃ c1 : Int, c1 = IntKind.wrap .i64 (j - 1) /\ br c1 wv_15 /\ bs c1 wv_15 < bs j bu) /\
 ((decide ((0 : Int) <= j)) = false ->
 Calls P 227 ⟨[.slice be bf bg]⟩ bu fun c2 c3 =>
 ∃ c4 c5 c6, c2 = .returned (.slice c4 c5 c6) /\
 Calls P 136 ⟨[.slice c4 c5 c6, .int .i64 aw]⟩ c3 fun c7 c8 =>
 ∃ c9 ca cb cc, c7 = .returned (.tuple #[.slice c9 ca cb, .int .i64 cc]) /\
 Calls P 227 ⟨[(.slice (some ⟨bo, 0, none⟩) bn.toNat bn.toNat)]⟩ c8 fun cd ce =>
 ∃ cf cg ch, cd = .returned (.slice cf cg ch) /\
 R (.tuple #[.slice cf cg ch, .slice c9 ca cb]) ce))))
theorem impl_natDiv_ret {a : Option Addr} {a0 a1 : Nat} {a2 : Option Addr} {a3 a4 : Nat} (h : impl_natDiv a a0 a1 a2 a3 a4 w R) : Ret P 164 [.slice a a0 a1, .slice a2 a3 a4] w R := Ret.of_fsem Tryz.func164 rfl (Eq.mp (show _ = fsem P Tryz.f164 (fun k => cond (Nat.beq k 10) [(9, .one .slice)] (cond (Nat.beq k 15) [(13, .one (.int .i64))] ([]))) _ R w from by kernel_rfl) h)
def impl_natMul (a0 : Option Addr) (a1 a2 : Nat) (a3 : Option Addr) (a4 a5 : Nat) (w : World) (R : Value -> World -> Prop) : Prop :=
 ∃ a6 : Int, a6 = IntKind.wrap .i64 (((a1 : Nat) : Int) + ((a4 : Nat) : Int)) /\ ∃ a7 : Int, a7 = IntKind.wrap .i64 (a6 + 1) /\ (0 <= (a7 : Int) /\ (a7 : Int) <= a7 /\ ((8 : Nat) : Int) * a7 <= 281474976710656) /\
 ∀ r wv, New w (.cells ⟨zeroRow (.int .i64 0) (a7.toNat * 1)⟩ 3 (0, 0)) r wv ->
 ∃ (a8 : Int -> World -> Prop) (mu : Int -> World -> Nat), a8 0 wv /\
 ∀ (a9 : Fr) (aa : World) (ab : Int), a8 ab aa ->
 ((decide ((ab : Int) < ((a1 : Nat) : Int))) = true ->
 (0 <= (ab : Int) /\ (ab : Int) < (a1 : Nat)) /\ ptrS a0 fun ad => ∃ ac, Loads P 3 (ad.add (ab.toNat * 1)) (.int .i64 ac) aa /\ ∃ (ae : Int -> Int -> World -> Prop) (af : Int -> Int -> World -> Nat), ae 0 0 aa /\
 ∀ (ag : Fr) (ah : World) (carry ai : Int), ae carry ai ah ->
 ((decide ((ai : Int) < ((a4 : Nat) : Int))) = true ->
 (0 <= (ai : Int) /\ (ai : Int) < (a4 : Nat)) /\ ptrS a3 fun aj => ∃ ak, Loads P 3 (aj.add (ai.toNat * 1)) (.int .i64 ak) ah /\ ∃ al : Int, al = IntKind.wrap .i64 (ab + ai) /\ (0 <= (al : Int) /\ (al : Int) < (a7.toNat : Nat)) /\ ∃ am, Loads P 3 ((⟨r, 0, none⟩ : Addr).add (al.toNat * 1)) (.int .i64 am) ah /\ ∃ an : Int, an = IntKind.wrap .i64 (ac * ak) /\ ∃ ao : Int, ao = IntKind.wrap .i64 (am + an) /\ ∃ ap : Int, ap = IntKind.wrap .i64 (carry + ao) /\ ∃ aq : Int, aq = IntKind.wrap .i64 (ab + ai) /\ (1000000000 : Int) ≠ 0 /\ ∃ ar : Int, ar = Int.tmod ap 1000000000 /\ (0 <= (aq : Int) /\ (aq : Int) < (a7.toNat : Nat)) /\ ∃ wv_3, Stores P 3 ((⟨r, 0, none⟩ : Addr).add (aq.toNat * 1)) (.int .i64 ar) ah wv_3 /\
 (1000000000 : Int) ≠ 0 /\ ∃ au : Int, au = IntKind.wrap .i64 (Int.tdiv ap 1000000000) /\ ∃ av : Int, av = IntKind.wrap .i64 (ai + 1) /\ ae au av wv_3 /\ af au av wv_3 < af carry ai ah) /\
 ((decide ((ai : Int) < ((a4 : Nat) : Int))) = false ->
 ∃ aw : Int, aw = IntKind.wrap .i64 (ab + ((a4 : Nat) : Int)) /\ ∃ (ax : Int -> Int -> World -> Prop) (ay : Int -> Int -> World -> Nat), ax carry aw ah /\
 ∀ (az : Fr) (b0 : World) (carry_1 k : Int), ax carry_1 k b0 ->
 ((decide ((0 : Int) < carry_1)) = true ->
 (0 <= (k : Int) /\ (k : Int) < (a7.toNat : Nat)) /\ ∃ b1, Loads P 3 ((⟨r, 0, none⟩ : Addr).add (k.toNat * 1)) (.int .i64 b1) b0 /\ ∃ b2 : Int, b2 = IntKind.wrap .i64 (carry_1 + b1) /\ (1000000000 : Int) ≠ 0 /\ ∃ b3 : Int, b3 = Int.tmod b2 1000000000 /\ (0 <= (k : Int) /\ (k : Int) < (a7.toNat : Nat)) /\ ∃ wv_5, Stores P 3 ((⟨r, 0, none⟩ : Addr).add (k.toNat * 1)) (.int .i64 b3) b0 wv_5 /\
 (1000000000 : Int) ≠ 0 /\ ∃ b4 : Int, b4 = IntKind.wrap .i64 (Int.tdiv b2 1000000000) /\ ∃ b5 : Int, b5 = IntKind.wrap .i64 (k + 1) /\ ax b4 b5 wv_5 /\ ay b4 b5 wv_5 < ay carry_1 k b0) /\
 ((decide ((0 : Int) < carry_1)) = false ->
 ∃ b6 : Int, b6 = IntKind.wrap .i64 (ab + 1) /\ a8 b6 b0 /\ mu b6 b0 < mu ab aa))) /\
 ((decide ((ab : Int) < ((a1 : Nat) : Int))) = false ->
 Calls P 227 ⟨[(.slice (some ⟨r, 0, none⟩) a7.toNat a7.toNat)]⟩ aa fun e b7 =>
 ∃ b8 b9 ba, e = .returned (.slice b8 b9 ba) /\
 R (.slice b8 b9 ba) b7)
theorem impl_natMul_ret {a : Option Addr} {a0 a1 : Nat} {a2 : Option Addr} {a3 a4 : Nat} (h : impl_natMul a a0 a1 a2 a3 a4 w R) : Ret P 165 [.slice a a0 a1, .slice a2 a3 a4] w R := Ret.of_fsem Tryz.func165 rfl (Eq.mp (show _ = fsem P Tryz.f165 (fun k => cond (Nat.beq k 4) [(21, .one (.int .i64))] (cond (Nat.beq k 8) [(8, .one (.int .i64)), (28, .one (.int .i64))] (cond (Nat.beq k 15) [(8, .one (.int .i64)), (11, .one (.int .i64))] ([])))) _ R w from by kernel_rfl) h)
def impl_natSub_j1 (a0 r : Nat) (a1 : World) (a2 : Int -> Int -> World -> Prop) (mu : Int -> Int -> World -> Nat) (borrow a3 : Int) (borrow_1 n_1 : Int) (a4 : World) (R : Value -> World -> Prop) : Prop :=
 (0 <= (a3 : Int) /\ (a3 : Int) < (a0 : Nat)) /\ ∃ wv_2, Stores P 3 ((⟨r, 0, none⟩ : Addr).add (a3.toNat * 1)) (.int .i64 n_1) a4 wv_2 /\
 ∃ a5 : Int, a5 = IntKind.wrap .i64 (a3 + 1) /\ a2 borrow_1 a5 wv_2 /\ mu borrow_1 a5 wv_2 < mu borrow a3 a1
def impl_natSub_j0 (a0 r : Nat) (a1 : World) (a2 : Int -> Int -> World -> Prop) (mu : Int -> Int -> World -> Nat) (borrow a3 n : Int) (W : World) (R : Value -> World -> Prop) : Prop :=
 ((decide ((n : Int) < 0)) = true ->
 ∃ a4 : Int, a4 = IntKind.wrap .i64 (n + 1000000000) /\ impl_natSub_j1 a0 r a1 a2 mu borrow a3 1 a4 W R) /\
 ((decide ((n : Int) < 0)) = false ->
 impl_natSub_j1 a0 r a1 a2 mu borrow a3 0 n W R)
def impl_natSub (a0 : Option Addr) (a1 a2 : Nat) (a3 : Option Addr) (a4 a5 : Nat) (w : World) (R : Value -> World -> Prop) : Prop :=
 (0 <= (((a1 : Nat) : Int) : Int) /\ (((a1 : Nat) : Int) : Int) <= ((a1 : Nat) : Int) /\ ((8 : Nat) : Int) * ((a1 : Nat) : Int) <= 281474976710656) /\
 ∀ r wv, New w (.cells ⟨zeroRow (.int .i64 0) (a1 * 1)⟩ 3 (0, 0)) r wv ->
 ∃ (a6 : Int -> Int -> World -> Prop) (mu : Int -> Int -> World -> Nat), a6 0 0 wv /\
 ∀ (a7 : Fr) (a8 : World) (borrow a9 : Int), a6 borrow a9 a8 ->
 ((decide ((a9 : Int) < ((a1 : Nat) : Int))) = true ->
 (0 <= (a9 : Int) /\ (a9 : Int) < (a1 : Nat)) /\ ptrS a0 fun ad => ∃ aa, Loads P 3 (ad.add (a9.toNat * 1)) (.int .i64 aa) a8 /\ ∃ ab : Int, ab = IntKind.wrap .i64 (aa - borrow) /\ ((decide ((a9 : Int) < ((a4 : Nat) : Int))) = true ->
 (0 <= (a9 : Int) /\ (a9 : Int) < (a4 : Nat)) /\ ptrS a3 fun ac => ∃ ae, Loads P 3 (ac.add (a9.toNat * 1)) (.int .i64 ae) a8 /\ ∃ af : Int, af = IntKind.wrap .i64 (ab - ae) /\ impl_natSub_j0 a1 r a8 a6 mu borrow a9 af a8 R) /\
 ((decide ((a9 : Int) < ((a4 : Nat) : Int))) = false ->
 impl_natSub_j0 a1 r a8 a6 mu borrow a9 ab a8 R)) /\
 ((decide ((a9 : Int) < ((a1 : Nat) : Int))) = false ->
 Calls P 227 ⟨[(.slice (some ⟨r, 0, none⟩) a1 a1)]⟩ a8 fun e ag =>
 ∃ ah ai aj, e = .returned (.slice ah ai aj) /\
 R (.slice ah ai aj) ag)
theorem impl_natSub_ret {a : Option Addr} {a0 a1 : Nat} {a2 : Option Addr} {a3 a4 : Nat} (h : impl_natSub a a0 a1 a2 a3 a4 w R) : Ret P 166 [.slice a a0 a1, .slice a2 a3 a4] w R := Ret.of_fsem Tryz.func166 rfl (Eq.mp (show _ = fsem P Tryz.f166 (fun k => cond (Nat.beq k 5) [(6, .one (.int .i64)), (14, .one (.int .i64))] ([])) _ R w from by kernel_rfl) h)
def impl_natCmp (a0 : Option Addr) (a1 a2 : Nat) (a3 : Option Addr) (a4 a5 : Nat) (w : World) (R : Value -> World -> Prop) : Prop :=
 ((decide ((((a1 : Nat) : Int) : Int) ≠ ((a4 : Nat) : Int))) = true ->
 ((decide ((((a1 : Nat) : Int) : Int) < ((a4 : Nat) : Int))) = true ->
 R (.int .i64 (-1)) w) /\
 ((decide ((((a1 : Nat) : Int) : Int) < ((a4 : Nat) : Int))) = false ->
 R (.int .i64 1) w)) /\
 ((decide ((((a1 : Nat) : Int) : Int) ≠ ((a4 : Nat) : Int))) = false ->
 ∃ a6 : Int, a6 = IntKind.wrap .i64 (((a1 : Nat) : Int) - 1) /\ ∃ (a7 : Int -> World -> Prop) (mu : Int -> World -> Nat), a7 a6 w /\
 ∀ (a8 : Fr) (wv : World) (i : Int), a7 i wv ->
 ((decide ((0 : Int) <= i)) = true ->
 (0 <= (i : Int) /\ (i : Int) < (a1 : Nat)) /\ ptrS a0 fun ad => ∃ a9, (∀ wv_1, Ext wv.drew wv_1 -> Loads P 3 (ad.add (i.toNat * 1)) (.int .i64 a9) wv_1) /\ (0 <= (i : Int) /\ (i : Int) < (a4 : Nat)) /\ ptrS a3 fun aa => ∃ ab, (∀ wv_2, Ext wv.drew wv_2 -> Loads P 3 (aa.add (i.toNat * 1)) (.int .i64 ab) wv_2) /\ ((decide ((a9 : Int) ≠ ab)) = true ->
 (0 <= (i : Int) /\ (i : Int) < (a1 : Nat)) /\ ptrS a0 fun ac => ∃ ae, (∀ wv_3, Ext wv.drew.drew wv_3 -> Loads P 3 (ac.add (i.toNat * 1)) (.int .i64 ae) wv_3) /\ (0 <= (i : Int) /\ (i : Int) < (a4 : Nat)) /\ ptrS a3 fun af => ∃ ag, (∀ wv_4, Ext wv.drew.drew wv_4 -> Loads P 3 (af.add (i.toNat * 1)) (.int .i64 ag) wv_4) /\ ((decide ((ae : Int) < ag)) = true ->
 R (.int .i64 (-1)) wv.drew.drew) /\
 ((decide ((ae : Int) < ag)) = false ->
 R (.int .i64 1) wv.drew.drew)) /\
 ((decide ((a9 : Int) ≠ ab)) = false ->
 ∃ ah : Int, ah = IntKind.wrap .i64 (i - 1) /\ a7 ah wv.drew /\ mu ah wv.drew < mu i wv)) /\
 ((decide ((0 : Int) <= i)) = false ->
 R (.int .i64 0) wv))
theorem impl_natCmp_ret {a : Option Addr} {a0 a1 : Nat} {a2 : Option Addr} {a3 a4 : Nat} (h : impl_natCmp a a0 a1 a2 a3 a4 w R) : Ret P 170 [.slice a a0 a1, .slice a2 a3 a4] w R := Ret.of_fsem Tryz.func170 rfl (Eq.mp (show _ = fsem P Tryz.f170 (fun k => cond (Nat.beq k 7) [(5, .one (.int .i64))] ([])) _ R w from by kernel_rfl) h)
def impl_signed (neg : Bool) (a0 : Option Addr) (a1 a2 : Nat) (w : World) (R : Value -> World -> Prop) : Prop :=
 ∀ r wv, New w (.cells ⟨[.bool false, .slice none 0 0]⟩ 31 (0, 0)) r wv ->
 (neg = true ->
 ∃ wv_1, Stores P 31 ⟨r, 0, none⟩ (.agg #[(.bool (decide ((0 : Int) < ((a1 : Nat) : Int)))), .slice a0 a1 a2]) wv wv_1 /\
 ∃ r0 a3 a4 a5, Loads P 31 ⟨r, 0, none⟩ (.agg #[.bool r0, .slice a3 a4 a5]) wv_1 /\ R (.agg #[.bool r0, .slice a3 a4 a5]) wv_1) /\
 (neg = false ->
 ∃ wv_2, Stores P 31 ⟨r, 0, none⟩ (.agg #[.bool false, .slice a0 a1 a2]) wv wv_2 /\
 ∃ r0_1 a6 a7 a8, Loads P 31 ⟨r, 0, none⟩ (.agg #[.bool r0_1, .slice a6 a7 a8]) wv_2 /\ R (.agg #[.bool r0_1, .slice a6 a7 a8]) wv_2)
theorem impl_signed_ret {a : Bool} {a0 : Option Addr} {a1 a2 : Nat} (h : impl_signed a a0 a1 a2 w R) : Ret P 173 [.bool a, .slice a0 a1 a2] w R := Ret.of_fsem Tryz.func173 rfl (Eq.mp (show _ = fsem P Tryz.f173 (fun k => []) _ R w from by kernel_rfl) h)
def spec_RatOk (r0 : Bool) (a0 : Option Addr) (a1 a2 : Nat) (a3 : Option Addr) (a4 a5 : Nat) (w : World) (R : Value -> World -> Prop) : Prop :=
 ∀ r wv, New w (.cells ⟨[.bool r0, .slice a0 a1 a2, .slice a3 a4 a5]⟩ 53 (0, 0)) r wv ->
 ∃ a6 a7 a8 a9, Loads P 31 ((⟨r, 0, none⟩ : Addr).add 0) (.agg #[.bool a6, .slice a7 a8 a9]) wv /\ Calls P 151 ⟨[.agg #[.bool a6, .slice a7 a8 a9]]⟩ wv fun e aa =>
 ∃ t5, e = .returned (.bool t5) /\
 ((!t5) = true ->
 (true = true ->
 (true = true ->
 (true = true ->
 (true = true ->
 R (.bool false) aa) /\
 (true = false ->
 ∃ ab ac ae, Loads P 22 (((⟨r, 0, none⟩ : Addr).add 0).add 1) (.slice ab ac ae) aa /\ ∃ af ag ah, Loads P 22 ((⟨r, 0, none⟩ : Addr).add 2) (.slice af ag ah) aa /\ Calls P 242 ⟨[.slice ab ac ae, .slice af ag ah]⟩ aa fun ai aj =>
 ∃ ak al am, ai = .returned (.slice ak al am) /\
 ∀ an ao, New aj (.cells ⟨[.int .i64 1]⟩ 3 (0, 0)) an ao ->
 Calls P 222 ⟨[.slice ak al am, (.slice (some ⟨an, 0, none⟩) 1 1)]⟩ ao fun ap aq =>
 ∃ ar, ap = .returned (.int .i64 ar) /\
 R (.bool (decide ((ar : Int) = 0))) aq)) /\
 (true = false ->
 ∃ au av aw, Loads P 22 (((⟨r, 0, none⟩ : Addr).add 0).add 1) (.slice au av aw) aa /\ ((decide ((18 : Int) < ((av : Nat) : Int))) = true ->
 R (.bool false) aa) /\
 ((decide ((18 : Int) < ((av : Nat) : Int))) = false ->
 ∃ ax ay az, Loads P 22 (((⟨r, 0, none⟩ : Addr).add 0).add 1) (.slice ax ay az) aa /\ ∃ b0 b1 b2, Loads P 22 ((⟨r, 0, none⟩ : Addr).add 2) (.slice b0 b1 b2) aa /\ Calls P 242 ⟨[.slice ax ay az, .slice b0 b1 b2]⟩ aa fun b3 b4 =>
 ∃ b5 b6 b7, b3 = .returned (.slice b5 b6 b7) /\
 ∀ b8 b9, New b4 (.cells ⟨[.int .i64 1]⟩ 3 (0, 0)) b8 b9 ->
 Calls P 222 ⟨[.slice b5 b6 b7, (.slice (some ⟨b8, 0, none⟩) 1 1)]⟩ b9 fun ba bb =>
 ∃ bc, ba = .returned (.int .i64 bc) /\
 R (.bool (decide ((bc : Int) = 0))) bb))) /\
 (true = false ->
 ∃ bd be bf, Loads P 22 ((⟨r, 0, none⟩ : Addr).add 2) (.slice bd be bf) aa /\ ((decide ((18 : Int) < ((be : Nat) : Int))) = true ->
 (true = true ->
 R (.bool false) aa) /\
 (true = false ->
 ∃ bg bh bi, Loads P 22 (((⟨r, 0, none⟩ : Addr).add 0).add 1) (.slice bg bh bi) aa /\ ∃ bj bk bl, Loads P 22 ((⟨r, 0, none⟩ : Addr).add 2) (.slice bj bk bl) aa /\ Calls P 242 ⟨[.slice bg bh bi, .slice bj bk bl]⟩ aa fun bm bn =>
 ∃ bo bp bq, bm = .returned (.slice bo bp bq) /\
 ∀ br bs, New bn (.cells ⟨[.int .i64 1]⟩ 3 (0, 0)) br bs ->
 Calls P 222 ⟨[.slice bo bp bq, (.slice (some ⟨br, 0, none⟩) 1 1)]⟩ bs fun bt bu =>
 ∃ bv, bt = .returned (.int .i64 bv) /\
 R (.bool (decide ((bv : Int) = 0))) bu)) /\
 ((decide ((18 : Int) < ((be : Nat) : Int))) = false ->
 ∃ bw bx bz, Loads P 22 (((⟨r, 0, none⟩ : Addr).add 0).add 1) (.slice bw bx bz) aa /\ ((decide ((18 : Int) < ((bx : Nat) : Int))) = true ->
 R (.bool false) aa) /\
 ((decide ((18 : Int) < ((bx : Nat) : Int))) = false ->
 ∃ c0 c1 c2, Loads P 22 (((⟨r, 0, none⟩ : Addr).add 0).add 1) (.slice c0 c1 c2) aa /\ ∃ c3 c4 c5, Loads P 22 ((⟨r, 0, none⟩ : Addr).add 2) (.slice c3 c4 c5) aa /\ Calls P 242 ⟨[.slice c0 c1 c2, .slice c3 c4 c5]⟩ aa fun c6 c7 =>
 ∃ c8 c9 ca, c6 = .returned (.slice c8 c9 ca) /\
 ∀ cb cc, New c7 (.cells ⟨[.int .i64 1]⟩ 3 (0, 0)) cb cc ->
 Calls P 222 ⟨[.slice c8 c9 ca, (.slice (some ⟨cb, 0, none⟩) 1 1)]⟩ cc fun cd ce =>
 ∃ cf, cd = .returned (.int .i64 cf) /\
 R (.bool (decide ((cf : Int) = 0))) ce)))) /\
 (true = false ->
 ∃ cg ch ci, Loads P 22 ((⟨r, 0, none⟩ : Addr).add 2) (.slice cg ch ci) aa /\ ((decide ((((ch : Nat) : Int) : Int) = 0)) = true ->
 (true = true ->
 (true = true ->
 R (.bool false) aa) /\
 (true = false ->
 ∃ cj ck cl, Loads P 22 (((⟨r, 0, none⟩ : Addr).add 0).add 1) (.slice cj ck cl) aa /\ ∃ cm cn co, Loads P 22 ((⟨r, 0, none⟩ : Addr).add 2) (.slice cm cn co) aa /\ Calls P 242 ⟨[.slice cj ck cl, .slice cm cn co]⟩ aa fun cp cq =>
 ∃ cr cs ct, cp = .returned (.slice cr cs ct) /\
 ∀ cu cv, New cq (.cells ⟨[.int .i64 1]⟩ 3 (0, 0)) cu cv ->
 Calls P 222 ⟨[.slice cr cs ct, (.slice (some ⟨cu, 0, none⟩) 1 1)]⟩ cv fun cw cx =>
 ∃ cy, cw = .returned (.int .i64 cy) /\
 R (.bool (decide ((cy : Int) = 0))) cx)) /\
 (true = false ->
 ∃ cz d0 d1, Loads P 22 (((⟨r, 0, none⟩ : Addr).add 0).add 1) (.slice cz d0 d1) aa /\ ((decide ((18 : Int) < ((d0 : Nat) : Int))) = true ->
 R (.bool false) aa) /\
 ((decide ((18 : Int) < ((d0 : Nat) : Int))) = false ->
 ∃ d2 d3 d4, Loads P 22 (((⟨r, 0, none⟩ : Addr).add 0).add 1) (.slice d2 d3 d4) aa /\ ∃ d5 d6 d7, Loads P 22 ((⟨r, 0, none⟩ : Addr).add 2) (.slice d5 d6 d7) aa /\ Calls P 242 ⟨[.slice d2 d3 d4, .slice d5 d6 d7]⟩ aa fun d8 d9 =>
 ∃ da db dc, d8 = .returned (.slice da db dc) /\
 ∀ dd de, New d9 (.cells ⟨[.int .i64 1]⟩ 3 (0, 0)) dd de ->
 Calls P 222 ⟨[.slice da db dc, (.slice (some ⟨dd, 0, none⟩) 1 1)]⟩ de fun df dg =>
 ∃ dh, df = .returned (.int .i64 dh) /\
 R (.bool (decide ((dh : Int) = 0))) dg))) /\
 ((decide ((((ch : Nat) : Int) : Int) = 0)) = false ->
 ∃ di dj dk, Loads P 22 ((⟨r, 0, none⟩ : Addr).add 2) (.slice di dj dk) aa /\ ((decide ((18 : Int) < ((dj : Nat) : Int))) = true ->
 (true = true ->
 R (.bool false) aa) /\
 (true = false ->
 ∃ dl dm dn, Loads P 22 (((⟨r, 0, none⟩ : Addr).add 0).add 1) (.slice dl dm dn) aa /\ ∃ dp dq dr, Loads P 22 ((⟨r, 0, none⟩ : Addr).add 2) (.slice dp dq dr) aa /\ Calls P 242 ⟨[.slice dl dm dn, .slice dp dq dr]⟩ aa fun ds dt =>
 ∃ du dv dw, ds = .returned (.slice du dv dw) /\
 ∀ dx dy, New dt (.cells ⟨[.int .i64 1]⟩ 3 (0, 0)) dx dy ->
 Calls P 222 ⟨[.slice du dv dw, (.slice (some ⟨dx, 0, none⟩) 1 1)]⟩ dy fun dz e0 =>
 ∃ e1, dz = .returned (.int .i64 e1) /\
 R (.bool (decide ((e1 : Int) = 0))) e0)) /\
 ((decide ((18 : Int) < ((dj : Nat) : Int))) = false ->
 ∃ e2 e3 e4, Loads P 22 (((⟨r, 0, none⟩ : Addr).add 0).add 1) (.slice e2 e3 e4) aa /\ ((decide ((18 : Int) < ((e3 : Nat) : Int))) = true ->
 R (.bool false) aa) /\
 ((decide ((18 : Int) < ((e3 : Nat) : Int))) = false ->
 ∃ e5 e6 e7, Loads P 22 (((⟨r, 0, none⟩ : Addr).add 0).add 1) (.slice e5 e6 e7) aa /\ ∃ e8 e9 ea, Loads P 22 ((⟨r, 0, none⟩ : Addr).add 2) (.slice e8 e9 ea) aa /\ Calls P 242 ⟨[.slice e5 e6 e7, .slice e8 e9 ea]⟩ aa fun eb ec =>
 ∃ ed ee ef, eb = .returned (.slice ed ee ef) /\
 ∀ eg eh, New ec (.cells ⟨[.int .i64 1]⟩ 3 (0, 0)) eg eh ->
 Calls P 222 ⟨[.slice ed ee ef, (.slice (some ⟨eg, 0, none⟩) 1 1)]⟩ eh fun ei ej =>
 ∃ ek, ei = .returned (.int .i64 ek) /\
 R (.bool (decide ((ek : Int) = 0))) ej))))) /\
 ((!t5) = false ->
 ∃ el em en, Loads P 22 ((⟨r, 0, none⟩ : Addr).add 2) (.slice el em en) aa /\ Calls P 223 ⟨[.slice el em en]⟩ aa fun eo ep =>
 ∃ eq, eo = .returned (.bool eq) /\
 ((!eq) = true ->
 (true = true ->
 (true = true ->
 (true = true ->
 R (.bool false) ep) /\
 (true = false ->
 ∃ er es et, Loads P 22 (((⟨r, 0, none⟩ : Addr).add 0).add 1) (.slice er es et) ep /\ ∃ eu ev ew, Loads P 22 ((⟨r, 0, none⟩ : Addr).add 2) (.slice eu ev ew) ep /\ Calls P 242 ⟨[.slice er es et, .slice eu ev ew]⟩ ep fun ex ey =>
 ∃ ez f0 f1, ex = .returned (.slice ez f0 f1) /\
 ∀ f2 f3, New ey (.cells ⟨[.int .i64 1]⟩ 3 (0, 0)) f2 f3 ->
 Calls P 222 ⟨[.slice ez f0 f1, (.slice (some ⟨f2, 0, none⟩) 1 1)]⟩ f3 fun f4 f5 =>
 ∃ f6, f4 = .returned (.int .i64 f6) /\
 R (.bool (decide ((f6 : Int) = 0))) f5)) /\
 (true = false ->
 ∃ f7 f8 f9, Loads P 22 (((⟨r, 0, none⟩ : Addr).add 0).add 1) (.slice f7 f8 f9) ep /\ ((decide ((18 : Int) < ((f8 : Nat) : Int))) = true ->
 R (.bool false) ep) /\
 ((decide ((18 : Int) < ((f8 : Nat) : Int))) = false ->
 ∃ fa fb fc, Loads P 22 (((⟨r, 0, none⟩ : Addr).add 0).add 1) (.slice fa fb fc) ep /\ ∃ fd fe ff, Loads P 22 ((⟨r, 0, none⟩ : Addr).add 2) (.slice fd fe ff) ep /\ Calls P 242 ⟨[.slice fa fb fc, .slice fd fe ff]⟩ ep fun fg fh =>
 ∃ fi fj fk, fg = .returned (.slice fi fj fk) /\
 ∀ fl fm, New fh (.cells ⟨[.int .i64 1]⟩ 3 (0, 0)) fl fm ->
 Calls P 222 ⟨[.slice fi fj fk, (.slice (some ⟨fl, 0, none⟩) 1 1)]⟩ fm fun fn fo =>
 ∃ fp, fn = .returned (.int .i64 fp) /\
 R (.bool (decide ((fp : Int) = 0))) fo))) /\
 (true = false ->
 ∃ fq fr fs, Loads P 22 ((⟨r, 0, none⟩ : Addr).add 2) (.slice fq fr fs) ep /\ ((decide ((18 : Int) < ((fr : Nat) : Int))) = true ->
 (true = true ->
 R (.bool false) ep) /\
 (true = false ->
 ∃ ft fu fv, Loads P 22 (((⟨r, 0, none⟩ : Addr).add 0).add 1) (.slice ft fu fv) ep /\ ∃ fw fx fy, Loads P 22 ((⟨r, 0, none⟩ : Addr).add 2) (.slice fw fx fy) ep /\ Calls P 242 ⟨[.slice ft fu fv, .slice fw fx fy]⟩ ep fun fz g0 =>
 ∃ g1 g2 g3, fz = .returned (.slice g1 g2 g3) /\
 ∀ g4 g5, New g0 (.cells ⟨[.int .i64 1]⟩ 3 (0, 0)) g4 g5 ->
 Calls P 222 ⟨[.slice g1 g2 g3, (.slice (some ⟨g4, 0, none⟩) 1 1)]⟩ g5 fun g6 g7 =>
 ∃ g8, g6 = .returned (.int .i64 g8) /\
 R (.bool (decide ((g8 : Int) = 0))) g7)) /\
 ((decide ((18 : Int) < ((fr : Nat) : Int))) = false ->
 ∃ g9 ga gb, Loads P 22 (((⟨r, 0, none⟩ : Addr).add 0).add 1) (.slice g9 ga gb) ep /\ ((decide ((18 : Int) < ((ga : Nat) : Int))) = true ->
 R (.bool false) ep) /\
 ((decide ((18 : Int) < ((ga : Nat) : Int))) = false ->
 ∃ gc gd ge, Loads P 22 (((⟨r, 0, none⟩ : Addr).add 0).add 1) (.slice gc gd ge) ep /\ ∃ gf gg gh, Loads P 22 ((⟨r, 0, none⟩ : Addr).add 2) (.slice gf gg gh) ep /\ Calls P 242 ⟨[.slice gc gd ge, .slice gf gg gh]⟩ ep fun gi gj =>
 ∃ gk gl gm, gi = .returned (.slice gk gl gm) /\
 ∀ gn go, New gj (.cells ⟨[.int .i64 1]⟩ 3 (0, 0)) gn go ->
 Calls P 222 ⟨[.slice gk gl gm, (.slice (some ⟨gn, 0, none⟩) 1 1)]⟩ go fun gp gq =>
 ∃ gr, gp = .returned (.int .i64 gr) /\
 R (.bool (decide ((gr : Int) = 0))) gq)))) /\
 ((!eq) = false ->
 ∃ gs gt gu, Loads P 22 ((⟨r, 0, none⟩ : Addr).add 2) (.slice gs gt gu) ep /\ ((decide ((((gt : Nat) : Int) : Int) = 0)) = true ->
 (true = true ->
 (true = true ->
 R (.bool false) ep) /\
 (true = false ->
 ∃ gv gw gx, Loads P 22 (((⟨r, 0, none⟩ : Addr).add 0).add 1) (.slice gv gw gx) ep /\ ∃ gy gz h0, Loads P 22 ((⟨r, 0, none⟩ : Addr).add 2) (.slice gy gz h0) ep /\ Calls P 242 ⟨[.slice gv gw gx, .slice gy gz h0]⟩ ep fun h1 h2 =>
 ∃ h3 h4 h5, h1 = .returned (.slice h3 h4 h5) /\
 ∀ h6 h7, New h2 (.cells ⟨[.int .i64 1]⟩ 3 (0, 0)) h6 h7 ->
 Calls P 222 ⟨[.slice h3 h4 h5, (.slice (some ⟨h6, 0, none⟩) 1 1)]⟩ h7 fun h8 h9 =>
 ∃ ha, h8 = .returned (.int .i64 ha) /\
 R (.bool (decide ((ha : Int) = 0))) h9)) /\
 (true = false ->
 ∃ hb hc hd, Loads P 22 (((⟨r, 0, none⟩ : Addr).add 0).add 1) (.slice hb hc hd) ep /\ ((decide ((18 : Int) < ((hc : Nat) : Int))) = true ->
 R (.bool false) ep) /\
 ((decide ((18 : Int) < ((hc : Nat) : Int))) = false ->
 ∃ he hf hg, Loads P 22 (((⟨r, 0, none⟩ : Addr).add 0).add 1) (.slice he hf hg) ep /\ ∃ hh hi hj, Loads P 22 ((⟨r, 0, none⟩ : Addr).add 2) (.slice hh hi hj) ep /\ Calls P 242 ⟨[.slice he hf hg, .slice hh hi hj]⟩ ep fun hk hl =>
 ∃ hm hn ho, hk = .returned (.slice hm hn ho) /\
 ∀ hp hq, New hl (.cells ⟨[.int .i64 1]⟩ 3 (0, 0)) hp hq ->
 Calls P 222 ⟨[.slice hm hn ho, (.slice (some ⟨hp, 0, none⟩) 1 1)]⟩ hq fun hr hs =>
 ∃ ht, hr = .returned (.int .i64 ht) /\
 R (.bool (decide ((ht : Int) = 0))) hs))) /\
 ((decide ((((gt : Nat) : Int) : Int) = 0)) = false ->
 ∃ hu hv hw, Loads P 22 ((⟨r, 0, none⟩ : Addr).add 2) (.slice hu hv hw) ep /\ ((decide ((18 : Int) < ((hv : Nat) : Int))) = true ->
 (true = true ->
 R (.bool false) ep) /\
 (true = false ->
 ∃ hx hy hz, Loads P 22 (((⟨r, 0, none⟩ : Addr).add 0).add 1) (.slice hx hy hz) ep /\ ∃ i0 i1 i2, Loads P 22 ((⟨r, 0, none⟩ : Addr).add 2) (.slice i0 i1 i2) ep /\ Calls P 242 ⟨[.slice hx hy hz, .slice i0 i1 i2]⟩ ep fun i3 i4 =>
 ∃ i5 i6 i7, i3 = .returned (.slice i5 i6 i7) /\
 ∀ i8 i9, New i4 (.cells ⟨[.int .i64 1]⟩ 3 (0, 0)) i8 i9 ->
 Calls P 222 ⟨[.slice i5 i6 i7, (.slice (some ⟨i8, 0, none⟩) 1 1)]⟩ i9 fun ia ib =>
 ∃ ic, ia = .returned (.int .i64 ic) /\
 R (.bool (decide ((ic : Int) = 0))) ib)) /\
 ((decide ((18 : Int) < ((hv : Nat) : Int))) = false ->
 ∃ id ie ig, Loads P 22 (((⟨r, 0, none⟩ : Addr).add 0).add 1) (.slice id ie ig) ep /\ ((decide ((18 : Int) < ((ie : Nat) : Int))) = true ->
 R (.bool false) ep) /\
 ((decide ((18 : Int) < ((ie : Nat) : Int))) = false ->
 ∃ ih ii ij, Loads P 22 (((⟨r, 0, none⟩ : Addr).add 0).add 1) (.slice ih ii ij) ep /\ ∃ ik il im, Loads P 22 ((⟨r, 0, none⟩ : Addr).add 2) (.slice ik il im) ep /\ Calls P 242 ⟨[.slice ih ii ij, .slice ik il im]⟩ ep fun io ip =>
 ∃ iq ir it, io = .returned (.slice iq ir it) /\
 ∀ iu iv, New ip (.cells ⟨[.int .i64 1]⟩ 3 (0, 0)) iu iv ->
 Calls P 222 ⟨[.slice iq ir it, (.slice (some ⟨iu, 0, none⟩) 1 1)]⟩ iv fun iw ix =>
 ∃ iy, iw = .returned (.int .i64 iy) /\
 R (.bool (decide ((iy : Int) = 0))) ix)))))
theorem spec_RatOk_ret {r0 : Bool} {a : Option Addr} {a0 a1 : Nat} {a2 : Option Addr} {a3 a4 : Nat} (h : spec_RatOk r0 a a0 a1 a2 a3 a4 w R) : Ret P 174 [.agg #[.bool r0, .slice a a0 a1, .slice a2 a3 a4]] w R := Ret.of_fsem Tryz.func174 rfl (Eq.mp (show _ = fsem P Tryz.f174 (fun k => []) _ R w from by kernel_rfl) h)
def spec_l02Mul_j0 (a0 : Option Addr) (a1 : Nat) (a2 : Option Addr) (a3 : Nat) (W : World) (R : Value -> World -> Prop) : Prop :=
 ∃ a4 : Int, a4 = IntKind.wrap .i64 (((a1 : Nat) : Int) + ((a3 : Nat) : Int)) /\ (0 <= (a4 : Int) /\ (a4 : Int) <= a4 /\ ((8 : Nat) : Int) * a4 <= 281474976710656) /\
 ∀ r wv, New W (.cells ⟨zeroRow (.int .i64 0) (a4.toNat * 1)⟩ 3 (0, 0)) r wv ->
 ∃ (a5 : Int -> World -> Prop) (mu : Int -> World -> Nat), a5 0 wv /\
 ∀ (a6 : Fr) (a7 : World) (a8 : Int), a5 a8 a7 ->
 ((decide ((a8 : Int) < ((a1 : Nat) : Int))) = true ->
 (0 <= (a8 : Int) /\ (a8 : Int) < (a1 : Nat)) /\ ptrS a0 fun ad => ∃ a9, Loads P 3 (ad.add (a8.toNat * 1)) (.int .i64 a9) a7 /\ ∃ (aa : Int -> Int -> World -> Prop) (ab : Int -> Int -> World -> Nat), aa 0 0 a7 /\
 ∀ (ac : Fr) (ae : World) (carry af : Int), aa carry af ae ->
 ((decide ((af : Int) < ((a3 : Nat) : Int))) = true ->
 (0 <= (af : Int) /\ (af : Int) < (a3 : Nat)) /\ ptrS a2 fun ag => ∃ ah, Loads P 3 (ag.add (af.toNat * 1)) (.int .i64 ah) ae /\ ∃ ai : Int, ai = IntKind.wrap .i64 (a8 + af) /\ (0 <= (ai : Int) /\ (ai : Int) < (a4.toNat : Nat)) /\ ∃ aj, Loads P 3 ((⟨r, 0, none⟩ : Addr).add (ai.toNat * 1)) (.int .i64 aj) ae /\ ∃ ak : Int, ak = IntKind.wrap .i64 (a9 * ah) /\ ∃ al : Int, al = IntKind.wrap .i64 (aj + ak) /\ ∃ am : Int, am = IntKind.wrap .i64 (al + carry) /\ ∃ an : Int, an = IntKind.wrap .i64 (a8 + af) /\ (1000000000 : Int) ≠ 0 /\ ∃ ao : Int, ao = Int.tmod am 1000000000 /\ (0 <= (an : Int) /\ (an : Int) < (a4.toNat : Nat)) /\ ∃ wv_3, Stores P 3 ((⟨r, 0, none⟩ : Addr).add (an.toNat * 1)) (.int .i64 ao) ae wv_3 /\
 (1000000000 : Int) ≠ 0 /\ ∃ ap : Int, ap = IntKind.wrap .i64 (Int.tdiv am 1000000000) /\ ∃ aq : Int, aq = IntKind.wrap .i64 (af + 1) /\ aa ap aq wv_3 /\ ab ap aq wv_3 < ab carry af ae) /\
 ((decide ((af : Int) < ((a3 : Nat) : Int))) = false ->
 ∃ ar : Int, ar = IntKind.wrap .i64 (a8 + ((a3 : Nat) : Int)) /\ (0 <= (ar : Int) /\ (ar : Int) < (a4.toNat : Nat)) /\ ∃ wv_4, Stores P 3 ((⟨r, 0, none⟩ : Addr).add (ar.toNat * 1)) (.int .i64 carry) ae wv_4 /\
 ∃ au : Int, au = IntKind.wrap .i64 (a8 + 1) /\ a5 au wv_4 /\ mu au wv_4 < mu a8 a7)) /\
 ((decide ((a8 : Int) < ((a1 : Nat) : Int))) = false ->
 Calls P 243 ⟨[(.slice (some ⟨r, 0, none⟩) a4.toNat a4.toNat)]⟩ a7 fun e av =>
 ∃ aw ax ay, e = .returned (.slice aw ax ay) /\
 R (.slice aw ax ay) av)
def spec_l02Mul (a0 : Option Addr) (a1 a2 : Nat) (a3 : Option Addr) (a4 a5 : Nat) (w : World) (R : Value -> World -> Prop) : Prop :=
 ((decide ((((a1 : Nat) : Int) : Int) = 0)) = true ->
 (true = true ->
 R (.slice none 0 0) w) /\
 (true = false ->
 spec_l02Mul_j0 a0 a1 a3 a4 w R)) /\
 ((decide ((((a1 : Nat) : Int) : Int) = 0)) = false ->
 ((decide ((((a4 : Nat) : Int) : Int) = 0)) = true ->
 R (.slice none 0 0) w) /\
 ((decide ((((a4 : Nat) : Int) : Int) = 0)) = false ->
 spec_l02Mul_j0 a0 a1 a3 a4 w R))
theorem spec_l02Mul_ret {a : Option Addr} {a0 a1 : Nat} {a2 : Option Addr} {a3 a4 : Nat} (h : spec_l02Mul a a0 a1 a2 a3 a4 w R) : Ret P 175 [.slice a a0 a1, .slice a2 a3 a4] w R := Ret.of_fsem Tryz.func175 rfl (Eq.mp (show _ = fsem P Tryz.f175 (fun k => cond (Nat.beq k 6) [(28, .one (.int .i64))] (cond (Nat.beq k 10) [(8, .one (.int .i64)), (35, .one (.int .i64))] ([]))) _ R w from by kernel_rfl) h)
def spec_l04Add (x0 : Bool) (a0 : Option Addr) (a1 a2 : Nat) (y0 : Bool) (a3 : Option Addr) (a4 a5 : Nat) (w : World) (R : Value -> World -> Prop) : Prop :=
 ∀ r wv, New w (.cells ⟨[.bool x0, .slice a0 a1 a2]⟩ 31 (0, 0)) r wv ->
 ∀ a6 a7, New wv (.cells ⟨[.bool y0, .slice a3 a4 a5]⟩ 31 (0, 0)) a6 a7 ->
 ∀ a8 a9, New a7 (.cells ⟨[.bool false, .slice none 0 0]⟩ 31 (0, 0)) a8 a9 ->
 ∃ t6, Loads P 4 ((⟨r, 0, none⟩ : Addr).add 0) (.bool t6) a9 /\ ∃ t8, Loads P 4 ((⟨a6, 0, none⟩ : Addr).add 0) (.bool t8) a9 /\ ((t6 == t8) = true ->
 ∃ aa, (∀ wv_3, Ext a9.drew wv_3 -> Loads P 4 ((⟨r, 0, none⟩ : Addr).add 0) (.bool aa) wv_3) /\ ∃ ab ac ae, (∀ wv_4, Ext a9.drew wv_4 -> Loads P 22 ((⟨r, 0, none⟩ : Addr).add 1) (.slice ab ac ae) wv_4) /\ ∃ af ag ah, (∀ wv_5, Ext a9.drew wv_5 -> Loads P 22 ((⟨a6, 0, none⟩ : Addr).add 1) (.slice af ag ah) wv_5) /\ Calls P 244 ⟨[.slice ab ac ae, .slice af ag ah]⟩ a9.drew fun e ai =>
 ∃ aj ak al, e = .returned (.slice aj ak al) /\
 Ext a9.drew ai /\ Calls P 113 ⟨[.bool aa, .slice aj ak al]⟩ ai fun am an =>
 ∃ ao ap aq ar, am = .returned (.agg #[.bool ao, .slice ap aq ar]) /\
 ∃ wv_8, Stores P 31 ⟨a8, 0, none⟩ (.agg #[.bool ao, .slice ap aq ar]) an wv_8 /\
 ∃ r0 au av aw, Loads P 31 ⟨a8, 0, none⟩ (.agg #[.bool r0, .slice au av aw]) wv_8 /\ R (.agg #[.bool r0, .slice au av aw]) wv_8) /\
 ((t6 == t8) = false ->
 ∃ ax ay az, Loads P 22 ((⟨r, 0, none⟩ : Addr).add 1) (.slice ax ay az) a9 /\ ∃ b0 b1 b2, Loads P 22 ((⟨a6, 0, none⟩ : Addr).add 1) (.slice b0 b1 b2) a9 /\ Calls P 222 ⟨[.slice ax ay az, .slice b0 b1 b2]⟩ a9 fun b3 b4 =>
 ∃ b5, b3 = .returned (.int .i64 b5) /\
 ((decide ((0 : Int) <= b5)) = true ->
 ∃ b6, (∀ wv_10, Ext b4.drew wv_10 -> Loads P 4 ((⟨r, 0, none⟩ : Addr).add 0) (.bool b6) wv_10) /\ ∃ b7 b8 b9, (∀ wv_11, Ext b4.drew wv_11 -> Loads P 22 ((⟨r, 0, none⟩ : Addr).add 1) (.slice b7 b8 b9) wv_11) /\ ∃ ba bb bc, (∀ wv_12, Ext b4.drew wv_12 -> Loads P 22 ((⟨a6, 0, none⟩ : Addr).add 1) (.slice ba bb bc) wv_12) /\ Calls P 245 ⟨[.slice b7 b8 b9, .slice ba bb bc]⟩ b4.drew fun bd be =>
 ∃ bf bg bh, bd = .returned (.slice bf bg bh) /\
 Ext b4.drew be /\ Calls P 113 ⟨[.bool b6, .slice bf bg bh]⟩ be fun bi bj =>
 ∃ bk bl bm bn, bi = .returned (.agg #[.bool bk, .slice bl bm bn]) /\
 ∃ wv_15, Stores P 31 ⟨a8, 0, none⟩ (.agg #[.bool bk, .slice bl bm bn]) bj wv_15 /\
 ∃ r0_1 bo bp bq, Loads P 31 ⟨a8, 0, none⟩ (.agg #[.bool r0_1, .slice bo bp bq]) wv_15 /\ R (.agg #[.bool r0_1, .slice bo bp bq]) wv_15) /\
 ((decide ((0 : Int) <= b5)) = false ->
 ∃ br, (∀ wv_16, Ext b4.drew wv_16 -> Loads P 4 ((⟨a6, 0, none⟩ : Addr).add 0) (.bool br) wv_16) /\ ∃ bs bt bu, (∀ wv_17, Ext b4.drew wv_17 -> Loads P 22 ((⟨a6, 0, none⟩ : Addr).add 1) (.slice bs bt bu) wv_17) /\ ∃ bv bw bx, (∀ wv_18, Ext b4.drew wv_18 -> Loads P 22 ((⟨r, 0, none⟩ : Addr).add 1) (.slice bv bw bx) wv_18) /\ Calls P 245 ⟨[.slice bs bt bu, .slice bv bw bx]⟩ b4.drew fun bz c0 =>
 ∃ c1 c2 c3, bz = .returned (.slice c1 c2 c3) /\
 Ext b4.drew c0 /\ Calls P 113 ⟨[.bool br, .slice c1 c2 c3]⟩ c0 fun c4 c5 =>
 ∃ c6 c7 c8 c9, c4 = .returned (.agg #[.bool c6, .slice c7 c8 c9]) /\
 ∃ wv_21, Stores P 31 ⟨a8, 0, none⟩ (.agg #[.bool c6, .slice c7 c8 c9]) c5 wv_21 /\
 ∃ r0_2 ca cb cc, Loads P 31 ⟨a8, 0, none⟩ (.agg #[.bool r0_2, .slice ca cb cc]) wv_21 /\ R (.agg #[.bool r0_2, .slice ca cb cc]) wv_21))
theorem spec_l04Add_ret {x0 : Bool} {a : Option Addr} {a0 a1 : Nat} {y0 : Bool} {a2 : Option Addr} {a3 a4 : Nat} (h : spec_l04Add x0 a a0 a1 y0 a2 a3 a4 w R) : Ret P 176 [.agg #[.bool x0, .slice a a0 a1], .agg #[.bool y0, .slice a2 a3 a4]] w R := Ret.of_fsem Tryz.func176 rfl (Eq.mp (show _ = fsem P Tryz.f176 (fun k => []) _ R w from by kernel_rfl) h)
end Go.Proofs.YtfehpaekbbmkcaaGreatDoor
namespace Go.Proofs.YtfehpaekbbmkcaaGreatDoor
variable {w : World} {R : Value -> World -> Prop}
open Go Go.Proofs.YtfehpaekbbmkcaaGreatDoor.Sx
set_option maxRecDepth 100000
abbrev spec_l05Low_z0 (q : Nat) (x : World) (R : Value -> World -> Prop) : Prop :=
 ∃ y, Stores P 53 ⟨q, 0, none⟩ (.agg #[.bool false, .slice none 0 0, .slice none 0 0]) x y /\ ∃ r0 ag ah ai aj ak al, Loads P 53 ⟨q, 0, none⟩ (.agg #[.bool r0, .slice ag ah ai, .slice aj ak al]) y /\ R (.tuple #[.agg #[.bool r0, .slice ag ah ai, .slice aj ak al], .bool false]) y
def spec_l05Low (neg : Bool) (a0 : Option Addr) (a1 a2 : Nat) (a3 : Option Addr) (a4 a5 : Nat) (w : World) (R : Value -> World -> Prop) : Prop :=
 ∀ r wv, New w (.cells ⟨[.bool false, .slice none 0 0, .slice none 0 0]⟩ 53 (0, 0)) r wv ->
 Calls P 243 ⟨[.slice a0 a1 a2]⟩ wv fun e a6 =>
 ∃ a7 a8 a9, e = .returned (.slice a7 a8 a9) /\
 Calls P 243 ⟨[.slice a3 a4 a5]⟩ a6 fun aa ab =>
 ∃ ac ae af, aa = .returned (.slice ac ae af) /\
 ((decide ((((ae : Nat) : Int) : Int) = 0)) = true ->
 spec_l05Low_z0 r ab R) /\
 ((decide ((((ae : Nat) : Int) : Int) = 0)) = false ->
 Calls P 246 ⟨[.slice a7 a8 a9, .slice ac ae af]⟩ ab fun am an =>
 ∃ ao ap aq, am = .returned (.slice ao ap aq) /\
 Calls P 224 ⟨[.slice a7 a8 a9, .slice ao ap aq]⟩ an fun ar au =>
 ∃ av aw ax ay az b0, ar = .returned (.tuple #[.slice av aw ax, .slice ay az b0]) /\
 Calls P 224 ⟨[.slice ac ae af, .slice ao ap aq]⟩ au fun b1 b2 =>
 ∃ b3 b4 b5 b6 b7 b8, b1 = .returned (.tuple #[.slice b3 b4 b5, .slice b6 b7 b8]) /\
 ((decide ((18 : Int) < ((aw : Nat) : Int))) = true ->
 (true = true ->
 spec_l05Low_z0 r b2 R) /\
 (true = false ->
 Calls P 113 ⟨[.bool neg, .slice av aw ax]⟩ b2 fun bf bg =>
 ∃ bh bi bj bk, bf = .returned (.agg #[.bool bh, .slice bi bj bk]) /\
 ∀ bl bm, New bg (.cells ⟨[]⟩ 3 (0, 0)) bl bm ->
 ∃ bn bo bp bq, Appends P [22, 22] [(.slice (some ⟨bl, 0, none⟩) 0 0), .slice b3 b4 b5] (.slice bn bo bp) bm bq /\
 ∃ wv_11, Stores P 53 ⟨r, 0, none⟩ (.agg #[.bool bh, .slice bi bj bk, .slice bn bo bp]) bq wv_11 /\
 ∃ r0_2 br bs bt bu bv bw, Loads P 53 ⟨r, 0, none⟩ (.agg #[.bool r0_2, .slice br bs bt, .slice bu bv bw]) wv_11 /\ R (.tuple #[.agg #[.bool r0_2, .slice br bs bt, .slice bu bv bw], .bool true]) wv_11)) /\
 ((decide ((18 : Int) < ((aw : Nat) : Int))) = false ->
 ((decide ((18 : Int) < ((b4 : Nat) : Int))) = true ->
 spec_l05Low_z0 r b2 R) /\
 ((decide ((18 : Int) < ((b4 : Nat) : Int))) = false ->
 Calls P 113 ⟨[.bool neg, .slice av aw ax]⟩ b2 fun c4 c5 =>
 ∃ c6 c7 c8 c9, c4 = .returned (.agg #[.bool c6, .slice c7 c8 c9]) /\
 ∀ ca cb, New c5 (.cells ⟨[]⟩ 3 (0, 0)) ca cb ->
 ∃ cc cd ce cf, Appends P [22, 22] [(.slice (some ⟨ca, 0, none⟩) 0 0), .slice b3 b4 b5] (.slice cc cd ce) cb cf /\
 ∃ wv_16, Stores P 53 ⟨r, 0, none⟩ (.agg #[.bool c6, .slice c7 c8 c9, .slice cc cd ce]) cf wv_16 /\
 ∃ r0_4 cg ch ci cj ck cl, Loads P 53 ⟨r, 0, none⟩ (.agg #[.bool r0_4, .slice cg ch ci, .slice cj ck cl]) wv_16 /\ R (.tuple #[.agg #[.bool r0_4, .slice cg ch ci, .slice cj ck cl], .bool true]) wv_16)))
theorem spec_l05Low_ret {a : Bool} {a0 : Option Addr} {a1 a2 : Nat} {a3 : Option Addr} {a4 a5 : Nat} (h : spec_l05Low a a0 a1 a2 a3 a4 a5 w R) : Ret P 177 [.bool a, .slice a0 a1 a2, .slice a3 a4 a5] w R := Ret.of_fsem Tryz.func177 rfl (Eq.mp (show _ = fsem P Tryz.f177 (fun k => []) _ R w from by kernel_rfl) h)
def spec_l08Find (code : ByteArray) (w : World) (R : Value -> World -> Prop) : Prop :=
 ∀ r wv, New w (.cells ⟨[.string ByteArray.empty, .string ByteArray.empty, .int .i64 0, .int .i64 0]⟩ 207 (0, 0)) r wv ->
 Calls P 247 ⟨[]⟩ wv fun e a0 =>
 ∃ a1 a2 a3, e = .returned (.slice a1 a2 a3) /\
 ∃ (a4 : Int -> World -> Prop) (mu : Int -> World -> Nat), a4 0 a0 /\
 ∀ (a5 : Fr) (a6 : World) (t7 : Int), a4 t7 a6 ->
 ((decide ((t7 : Int) < ((a2 : Nat) : Int))) = true ->
 (0 <= (t7 : Int) /\ (t7 : Int) < (a2 : Nat)) /\ ptrS a1 fun ad => ∃ a7 a8 a9 aa, Loads P 207 (ad.add (t7.toNat * 4)) (.agg #[.string a7, .string a8, .int .i64 a9, .int .i64 aa]) a6 /\ ∀ ab ac, New a6 (.cells ⟨[.string ByteArray.empty, .string ByteArray.empty, .int .i64 0, .int .i64 0]⟩ 207 (0, 0)) ab ac ->
 ∃ wv_4, Stores P 207 ⟨ab, 0, none⟩ (.agg #[.string a7, .string a8, .int .i64 a9, .int .i64 aa]) ac wv_4 /\
 ∃ ae, Loads P 9 ((⟨ab, 0, none⟩ : Addr).add 0) (.string ae) wv_4 /\ ((decide (ae = code)) = true ->
 ∃ af ag ah ai, Loads P 207 ⟨ab, 0, none⟩ (.agg #[.string af, .string ag, .int .i64 ah, .int .i64 ai]) wv_4 /\ ∃ wv_5, Stores P 207 ⟨r, 0, none⟩ (.agg #[.string af, .string ag, .int .i64 ah, .int .i64 ai]) wv_4 wv_5 /\
 ∃ r0 r1 r2 r3, Loads P 207 ⟨r, 0, none⟩ (.agg #[.string r0, .string r1, .int .i64 r2, .int .i64 r3]) wv_5 /\ R (.agg #[.string r0, .string r1, .int .i64 r2, .int .i64 r3]) wv_5) /\
 ((decide (ae = code)) = false ->
 ∃ aj : Int, aj = IntKind.wrap .i64 (t7 + 1) /\ a4 aj wv_4 /\ mu aj wv_4 < mu t7 a6)) /\
 ((decide ((t7 : Int) < ((a2 : Nat) : Int))) = false ->
 ∃ wv_6, Stores P 207 ⟨r, 0, none⟩ (.agg #[.string ByteArray.empty, .string ByteArray.empty, .int .i64 0, .int .i64 0]) a6 wv_6 /\
 ∃ r0_1 r1_1 r2_1 r3_1, Loads P 207 ⟨r, 0, none⟩ (.agg #[.string r0_1, .string r1_1, .int .i64 r2_1, .int .i64 r3_1]) wv_6 /\ R (.agg #[.string r0_1, .string r1_1, .int .i64 r2_1, .int .i64 r3_1]) wv_6)
theorem spec_l08Find_ret {a : ByteArray} (h : spec_l08Find a w R) : Ret P 179 [.string a] w R := Ret.of_fsem Tryz.func179 rfl (Eq.mp (show _ = fsem P Tryz.f179 (fun k => cond (Nat.beq k 3) [(7, .one (.int .i64))] ([])) _ R w from by kernel_rfl) h)
def impl_NatOk_j0 (a0 : Option Addr) (a1 : Nat) (W : World) (R : Value -> World -> Prop) : Prop :=
 ∃ (a2 : Int -> World -> Prop) (mu : Int -> World -> Nat), a2 0 W /\
 ∀ (a3 : Fr) (wv : World) (a4 : Int), a2 a4 wv ->
 ((decide ((a4 : Int) < ((a1 : Nat) : Int))) = true ->
 (0 <= (a4 : Int) /\ (a4 : Int) < (a1 : Nat)) /\ ptrS a0 fun ad => ∃ a5, Loads P 3 (ad.add (a4.toNat * 1)) (.int .i64 a5) wv /\ ((decide ((a5 : Int) < 0)) = true ->
 (true = true ->
 R (.bool false) wv) /\
 (true = false ->
 ∃ a6 : Int, a6 = IntKind.wrap .i64 (a4 + 1) /\ a2 a6 wv /\ mu a6 wv < mu a4 wv)) /\
 ((decide ((a5 : Int) < 0)) = false ->
 ((decide ((1000000000 : Int) <= a5)) = true ->
 R (.bool false) wv) /\
 ((decide ((1000000000 : Int) <= a5)) = false ->
 ∃ a7 : Int, a7 = IntKind.wrap .i64 (a4 + 1) /\ a2 a7 wv /\ mu a7 wv < mu a4 wv))) /\
 ((decide ((a4 : Int) < ((a1 : Nat) : Int))) = false ->
 R (.bool true) wv)
def impl_NatOk (a0 : Option Addr) (a1 a2 : Nat) (w : World) (R : Value -> World -> Prop) : Prop :=
 ((decide ((50 : Int) < ((a1 : Nat) : Int))) = true ->
 (true = true ->
 R (.bool false) w) /\
 (true = false ->
 impl_NatOk_j0 a0 a1 w R)) /\
 ((decide ((50 : Int) < ((a1 : Nat) : Int))) = false ->
 ((decide ((0 : Int) < ((a1 : Nat) : Int))) = true ->
 ∃ a3 : Int, a3 = IntKind.wrap .i64 (((a1 : Nat) : Int) - 1) /\ (0 <= (a3 : Int) /\ (a3 : Int) < (a1 : Nat)) /\ ptrS a0 fun a4 => ∃ a5, Loads P 3 (a4.add (a3.toNat * 1)) (.int .i64 a5) w /\ ((decide ((a5 : Int) = 0)) = true ->
 R (.bool false) w) /\
 ((decide ((a5 : Int) = 0)) = false ->
 impl_NatOk_j0 a0 a1 w R)) /\
 ((decide ((0 : Int) < ((a1 : Nat) : Int))) = false ->
 (false = true ->
 R (.bool false) w) /\
 (false = false ->
 impl_NatOk_j0 a0 a1 w R)))
theorem impl_NatOk_ret {a : Option Addr} {a0 a1 : Nat} (h : impl_NatOk a a0 a1 w R) : Ret P 180 [.slice a a0 a1] w R := Ret.of_fsem Tryz.func180 rfl (Eq.mp (show _ = fsem P Tryz.f180 (fun k => cond (Nat.beq k 5) [(24, .one (.int .i64))] ([])) _ R w from by kernel_rfl) h)
def impl_natGcd (a0 : Option Addr) (a1 a2 : Nat) (a3 : Option Addr) (a4 a5 : Nat) (w : World) (R : Value -> World -> Prop) : Prop :=
 ∃ (a6 : Option Addr -> Nat -> Nat -> Option Addr -> Nat -> Nat -> World -> Prop) (mu : Option Addr -> Nat -> Nat -> Option Addr -> Nat -> Nat -> World -> Nat), a6 a0 a1 a2 a3 a4 a5 w /\
 ∀ (a7 : Fr) (wv : World) (a8 : Option Addr) (a9 aa : Nat) (ab : Option Addr) (ac ae : Nat), a6 a8 a9 aa ab ac ae wv ->
 ((decide ((0 : Int) < ((ac : Nat) : Int))) = true ->
 Calls P 164 ⟨[.slice a8 a9 aa, .slice ab ac ae]⟩ wv fun e af =>
 ∃ ag ah ai aj ak al, e = .returned (.tuple #[.slice ag ah ai, .slice aj ak al]) /\
 a6 ab ac ae aj ak al af /\ mu ab ac ae aj ak al af < mu a8 a9 aa ab ac ae wv) /\
 ((decide ((0 : Int) < ((ac : Nat) : Int))) = false ->
 Calls P 162 ⟨[.slice a8 a9 aa]⟩ wv fun am an =>
 ∃ ao ap aq, am = .returned (.slice ao ap aq) /\
 R (.slice ao ap aq) an)
theorem impl_natGcd_ret {a : Option Addr} {a0 a1 : Nat} {a2 : Option Addr} {a3 a4 : Nat} (h : impl_natGcd a a0 a1 a2 a3 a4 w R) : Ret P 181 [.slice a a0 a1, .slice a2 a3 a4] w R := Ret.of_fsem Tryz.func181 rfl (Eq.mp (show _ = fsem P Tryz.f181 (fun k => cond (Nat.beq k 2) [(0, .one .slice), (1, .one .slice)] ([])) _ R w from by kernel_rfl) h)
def impl_currencyOf (code : ByteArray) (w : World) (R : Value -> World -> Prop) : Prop :=
 ∀ r wv, New w (.cells ⟨[.string ByteArray.empty, .string ByteArray.empty, .int .i64 0, .int .i64 0]⟩ 210 (0, 0)) r wv ->
 ∃ (t6 : Value), Loads P 215 ⟨0, 0, none⟩ t6 wv /\ ∃ (a0 : Int -> World -> Prop) (mu : Int -> World -> Nat), a0 0 wv /\
 ∀ (a1 : Fr) (a2 : World) (t7 : Int), a0 t7 a2 ->
 ((decide ((t7 : Int) < 20)) = true ->
 indexS P 215 t6 (.int .i64 t7) fun (el : Value) => ∀ a3 a4, New a2 (.cells ⟨[.string ByteArray.empty, .string ByteArray.empty, .int .i64 0, .int .i64 0]⟩ 210 (0, 0)) a3 a4 ->
 ∃ wv_3, Stores P 210 ⟨a3, 0, none⟩ el a4 wv_3 /\
 ∃ a5, Loads P 9 ((⟨a3, 0, none⟩ : Addr).add 0) (.string a5) wv_3 /\ ((decide (a5 = code)) = true ->
 ∃ a6 a7 a8 a9, Loads P 210 ⟨a3, 0, none⟩ (.agg #[.string a6, .string a7, .int .i64 a8, .int .i64 a9]) wv_3 /\ ∃ wv_4, Stores P 210 ⟨r, 0, none⟩ (.agg #[.string a6, .string a7, .int .i64 a8, .int .i64 a9]) wv_3 wv_4 /\
 ∃ r0 r1 r2 r3, Loads P 210 ⟨r, 0, none⟩ (.agg #[.string r0, .string r1, .int .i64 r2, .int .i64 r3]) wv_4 /\ R (.tuple #[.agg #[.string r0, .string r1, .int .i64 r2, .int .i64 r3], .bool true]) wv_4) /\
 ((decide (a5 = code)) = false ->
 ∃ aa : Int, aa = IntKind.wrap .i64 (t7 + 1) /\ a0 aa wv_3 /\ mu aa wv_3 < mu t7 a2)) /\
 ((decide ((t7 : Int) < 20)) = false ->
 ∃ wv_5, Stores P 210 ⟨r, 0, none⟩ (.agg #[.string ByteArray.empty, .string ByteArray.empty, .int .i64 0, .int .i64 0]) a2 wv_5 /\
 ∃ r0_1 r1_1 r2_1 r3_1, Loads P 210 ⟨r, 0, none⟩ (.agg #[.string r0_1, .string r1_1, .int .i64 r2_1, .int .i64 r3_1]) wv_5 /\ R (.tuple #[.agg #[.string r0_1, .string r1_1, .int .i64 r2_1, .int .i64 r3_1], .bool false]) wv_5)
theorem impl_currencyOf_ret {a : ByteArray} (h : impl_currencyOf a w R) : Ret P 182 [.string a] w R := Ret.of_fsem Tryz.func182 rfl (Eq.mp (show _ = fsem P Tryz.f182 (fun k => cond (Nat.beq k 3) [(7, .one (.int .i64))] ([])) _ R w from by kernel_rfl) h)
def impl_ratsOk (r0 : Bool) (a0 : Option Addr) (a1 a2 : Nat) (a3 : Option Addr) (a4 a5 : Nat) (s0 : Bool) (a6 : Option Addr) (a7 a8 : Nat) (a9 : Option Addr) (aa ab : Nat) (w : World) (R : Value -> World -> Prop) : Prop :=
 ∀ r wv, New w (.cells ⟨[.bool r0, .slice a0 a1 a2, .slice a3 a4 a5]⟩ 53 (0, 0)) r wv ->
 ∀ ac ae, New wv (.cells ⟨[.bool s0, .slice a6 a7 a8, .slice a9 aa ab]⟩ 53 (0, 0)) ac ae ->
 ∃ af ag ah ai aj ak al, Loads P 53 ⟨r, 0, none⟩ (.agg #[.bool af, .slice ag ah ai, .slice aj ak al]) ae /\ Calls P 85 ⟨[.agg #[.bool af, .slice ag ah ai, .slice aj ak al]]⟩ ae fun e am =>
 ∃ t6, e = .returned (.bool t6) /\
 (t6 = true ->
 ∃ an ao ap aq ar au av, Loads P 53 ⟨ac, 0, none⟩ (.agg #[.bool an, .slice ao ap aq, .slice ar au av]) am /\ Calls P 85 ⟨[.agg #[.bool an, .slice ao ap aq, .slice ar au av]]⟩ am fun aw ax =>
 ∃ t9, aw = .returned (.bool t9) /\
 R (.bool t9) ax) /\
 (t6 = false ->
 R (.bool false) am)
theorem impl_ratsOk_ret {r0 : Bool} {a : Option Addr} {a0 a1 : Nat} {a2 : Option Addr} {a3 a4 : Nat} {s0 : Bool} {a5 : Option Addr} {a6 a7 : Nat} {a8 : Option Addr} {a9 b : Nat} (h : impl_ratsOk r0 a a0 a1 a2 a3 a4 s0 a5 a6 a7 a8 a9 b w R) : Ret P 183 [.agg #[.bool r0, .slice a a0 a1, .slice a2 a3 a4], .agg #[.bool s0, .slice a5 a6 a7, .slice a8 a9 b]] w R := Ret.of_fsem Tryz.func183 rfl (Eq.mp (show _ = fsem P Tryz.f183 (fun k => []) _ R w from by kernel_rfl) h)
def impl_Rat_num (r0 : Bool) (a0 : Option Addr) (a1 a2 : Nat) (a3 : Option Addr) (a4 a5 : Nat) (a6 : Option Addr) (a7 a8 : Nat) (w : World) (R : Value -> World -> Prop) : Prop :=
 ∀ r wv, New w (.cells ⟨[.bool r0, .slice a0 a1 a2, .slice a3 a4 a5]⟩ 53 (0, 0)) r wv ->
 ∀ a9 aa, New wv (.cells ⟨[.bool false, .slice none 0 0]⟩ 31 (0, 0)) a9 aa ->
 ∃ t7, (∀ wv_2, Ext aa.drew wv_2 -> Loads P 4 (((⟨r, 0, none⟩ : Addr).add 0).add 0) (.bool t7) wv_2) /\ ∃ ab ac ae, (∀ wv_3, Ext aa.drew wv_3 -> Loads P 22 (((⟨r, 0, none⟩ : Addr).add 0).add 1) (.slice ab ac ae) wv_3) /\ Calls P 165 ⟨[.slice ab ac ae, .slice a6 a7 a8]⟩ aa.drew fun e af =>
 ∃ ag ah ai, e = .returned (.slice ag ah ai) /\
 Ext aa.drew af /\ Calls P 173 ⟨[.bool t7, .slice ag ah ai]⟩ af fun aj ak =>
 ∃ al am an ao, aj = .returned (.agg #[.bool al, .slice am an ao]) /\
 ∃ wv_6, Stores P 31 ⟨a9, 0, none⟩ (.agg #[.bool al, .slice am an ao]) ak wv_6 /\
 ∃ r0_1 ap aq ar, Loads P 31 ⟨a9, 0, none⟩ (.agg #[.bool r0_1, .slice ap aq ar]) wv_6 /\ R (.agg #[.bool r0_1, .slice ap aq ar]) wv_6
theorem impl_Rat_num_ret {r0 : Bool} {a : Option Addr} {a0 a1 : Nat} {a2 : Option Addr} {a3 a4 : Nat} {a5 : Option Addr} {a6 a7 : Nat} (h : impl_Rat_num r0 a a0 a1 a2 a3 a4 a5 a6 a7 w R) : Ret P 184 [.agg #[.bool r0, .slice a a0 a1, .slice a2 a3 a4], .slice a5 a6 a7] w R := Ret.of_fsem Tryz.func184 rfl (Eq.mp (show _ = fsem P Tryz.f184 (fun k => []) _ R w from by kernel_rfl) h)
def impl_reduce (num0 : Bool) (a0 : Option Addr) (a1 a2 : Nat) (a3 : Option Addr) (a4 a5 : Nat) (w : World) (R : Value -> World -> Prop) : Prop :=
 ∀ r wv, New w (.cells ⟨[.bool num0, .slice a0 a1 a2]⟩ 31 (0, 0)) r wv ->
 ∀ a6 a7, New wv (.cells ⟨[.bool false, .slice none 0 0, .slice none 0 0]⟩ 53 (0, 0)) a6 a7 ->
 ∃ a8 a9 aa, Loads P 22 ((⟨r, 0, none⟩ : Addr).add 1) (.slice a8 a9 aa) a7 /\ Calls P 181 ⟨[.slice a8 a9 aa, .slice a3 a4 a5]⟩ a7 fun e ab =>
 ∃ ac ae af, e = .returned (.slice ac ae af) /\
 ∃ ag ah ai, Loads P 22 ((⟨r, 0, none⟩ : Addr).add 1) (.slice ag ah ai) ab /\ Calls P 164 ⟨[.slice ag ah ai, .slice ac ae af]⟩ ab fun aj ak =>
 ∃ al am an ao ap aq, aj = .returned (.tuple #[.slice al am an, .slice ao ap aq]) /\
 Calls P 164 ⟨[.slice a3 a4 a5, .slice ac ae af]⟩ ak fun ar au =>
 ∃ av aw ax ay az b0, ar = .returned (.tuple #[.slice av aw ax, .slice ay az b0]) /\
 ((decide ((18 : Int) < ((am : Nat) : Int))) = true ->
 (true = true ->
 ∃ wv_5, Stores P 53 ⟨a6, 0, none⟩ (.agg #[.bool false, .slice none 0 0, .slice none 0 0]) au wv_5 /\
 ∃ r0 b1 b2 b3 b4 b5 b6, Loads P 53 ⟨a6, 0, none⟩ (.agg #[.bool r0, .slice b1 b2 b3, .slice b4 b5 b6]) wv_5 /\ R (.tuple #[.agg #[.bool r0, .slice b1 b2 b3, .slice b4 b5 b6], .bool false]) wv_5) /\
 (true = false ->
 ∃ b7, Loads P 4 ((⟨r, 0, none⟩ : Addr).add 0) (.bool b7) au /\ Calls P 173 ⟨[.bool b7, .slice al am an]⟩ au fun b8 b9 =>
 ∃ ba bb bc bd, b8 = .returned (.agg #[.bool ba, .slice bb bc bd]) /\
 ∃ wv_7, Stores P 53 ⟨a6, 0, none⟩ (.agg #[.bool ba, .slice bb bc bd, .slice av aw ax]) b9 wv_7 /\
 ∃ r0_1 be bf bg bh bi bj, Loads P 53 ⟨a6, 0, none⟩ (.agg #[.bool r0_1, .slice be bf bg, .slice bh bi bj]) wv_7 /\ R (.tuple #[.agg #[.bool r0_1, .slice be bf bg, .slice bh bi bj], .bool true]) wv_7)) /\
 ((decide ((18 : Int) < ((am : Nat) : Int))) = false ->
 ((decide ((18 : Int) < ((aw : Nat) : Int))) = true ->
 ∃ wv_8, Stores P 53 ⟨a6, 0, none⟩ (.agg #[.bool false, .slice none 0 0, .slice none 0 0]) au wv_8 /\
 ∃ r0_2 bk bl bm bn bo bp, Loads P 53 ⟨a6, 0, none⟩ (.agg #[.bool r0_2, .slice bk bl bm, .slice bn bo bp]) wv_8 /\ R (.tuple #[.agg #[.bool r0_2, .slice bk bl bm, .slice bn bo bp], .bool false]) wv_8) /\
 ((decide ((18 : Int) < ((aw : Nat) : Int))) = false ->
 ∃ bq, Loads P 4 ((⟨r, 0, none⟩ : Addr).add 0) (.bool bq) au /\ Calls P 173 ⟨[.bool bq, .slice al am an]⟩ au fun br bs =>
 ∃ bt bu bv bw, br = .returned (.agg #[.bool bt, .slice bu bv bw]) /\
 ∃ wv_10, Stores P 53 ⟨a6, 0, none⟩ (.agg #[.bool bt, .slice bu bv bw, .slice av aw ax]) bs wv_10 /\
 ∃ r0_3 bx bz c0 c1 c2 c3, Loads P 53 ⟨a6, 0, none⟩ (.agg #[.bool r0_3, .slice bx bz c0, .slice c1 c2 c3]) wv_10 /\ R (.tuple #[.agg #[.bool r0_3, .slice bx bz c0, .slice c1 c2 c3], .bool true]) wv_10))
theorem impl_reduce_ret {a : Bool} {a0 : Option Addr} {a1 a2 : Nat} {a3 : Option Addr} {a4 a5 : Nat} (h : impl_reduce a a0 a1 a2 a3 a4 a5 w R) : Ret P 185 [.agg #[.bool a, .slice a0 a1 a2], .slice a3 a4 a5] w R := Ret.of_fsem Tryz.func185 rfl (Eq.mp (show _ = fsem P Tryz.f185 (fun k => []) _ R w from by kernel_rfl) h)
def impl_intCopy (x0 : Bool) (a0 : Option Addr) (a1 a2 : Nat) (w : World) (R : Value -> World -> Prop) : Prop :=
 ∀ r wv, New w (.cells ⟨[.bool x0, .slice a0 a1 a2]⟩ 31 (0, 0)) r wv ->
 ∀ a3 a4, New wv (.cells ⟨[.bool false, .slice none 0 0]⟩ 31 (0, 0)) a3 a4 ->
 ∃ t4, (∀ wv_2, Ext a4.drew wv_2 -> Loads P 4 ((⟨r, 0, none⟩ : Addr).add 0) (.bool t4) wv_2) /\ ∃ a5 a6 a7, (∀ wv_3, Ext a4.drew wv_3 -> Loads P 22 ((⟨r, 0, none⟩ : Addr).add 1) (.slice a5 a6 a7) wv_3) /\ Calls P 162 ⟨[.slice a5 a6 a7]⟩ a4.drew fun e a8 =>
 ∃ a9 aa ab, e = .returned (.slice a9 aa ab) /\
 Ext a4.drew a8 /\ ∃ wv_5, Stores P 31 ⟨a3, 0, none⟩ (.agg #[.bool t4, .slice a9 aa ab]) a8 wv_5 /\
 ∃ r0 ac ae af, Loads P 31 ⟨a3, 0, none⟩ (.agg #[.bool r0, .slice ac ae af]) wv_5 /\ R (.agg #[.bool r0, .slice ac ae af]) wv_5
theorem impl_intCopy_ret {x0 : Bool} {a : Option Addr} {a0 a1 : Nat} (h : impl_intCopy x0 a a0 a1 w R) : Ret P 187 [.agg #[.bool x0, .slice a a0 a1]] w R := Ret.of_fsem Tryz.func187 rfl (Eq.mp (show _ = fsem P Tryz.f187 (fun k => []) _ R w from by kernel_rfl) h)
def impl_intSign (x0 : Bool) (a0 : Option Addr) (a1 a2 : Nat) (w : World) (R : Value -> World -> Prop) : Prop :=
 ∀ r wv, New w (.cells ⟨[.bool x0, .slice a0 a1 a2]⟩ 31 (0, 0)) r wv ->
 ∃ a3 a4 a5, Loads P 22 ((⟨r, 0, none⟩ : Addr).add 1) (.slice a3 a4 a5) wv /\ ((decide ((((a4 : Nat) : Int) : Int) = 0)) = true ->
 R (.int .i64 0) wv) /\
 ((decide ((((a4 : Nat) : Int) : Int) = 0)) = false ->
 ∃ a6, Loads P 4 ((⟨r, 0, none⟩ : Addr).add 0) (.bool a6) wv /\ (a6 = true ->
 R (.int .i64 (-1)) wv) /\
 (a6 = false ->
 R (.int .i64 1) wv))
theorem impl_intSign_ret {x0 : Bool} {a : Option Addr} {a0 a1 : Nat} (h : impl_intSign x0 a a0 a1 w R) : Ret P 188 [.agg #[.bool x0, .slice a a0 a1]] w R := Ret.of_fsem Tryz.func188 rfl (Eq.mp (show _ = fsem P Tryz.f188 (fun k => []) _ R w from by kernel_rfl) h)
def spec_DecOk (d0 : Bool) (a0 : Option Addr) (a1 a2 : Nat) (d2 : Int) (w : World) (R : Value -> World -> Prop) : Prop :=
 ∀ r wv, New w (.cells ⟨[.bool d0, .slice a0 a1 a2, .int .i64 d2]⟩ 63 (0, 0)) r wv ->
 ∃ a3 a4 a5 a6, Loads P 31 ((⟨r, 0, none⟩ : Addr).add 0) (.agg #[.bool a3, .slice a4 a5 a6]) wv /\ Calls P 151 ⟨[.agg #[.bool a3, .slice a4 a5 a6]]⟩ wv fun e a7 =>
 ∃ t5, e = .returned (.bool t5) /\
 (t5 = true ->
 ∃ a8 a9 aa, Loads P 22 (((⟨r, 0, none⟩ : Addr).add 0).add 1) (.slice a8 a9 aa) a7 /\ ((decide ((((a9 : Nat) : Int) : Int) <= 6)) = true ->
 ∃ ab, Loads P 3 ((⟨r, 0, none⟩ : Addr).add 2) (.int .i64 ab) a7 /\ Calls P 125 ⟨[.int .i64 ab, .int .i64 0, .int .i64 30]⟩ a7 fun ac ae =>
 ∃ af, ac = .returned (.bool af) /\
 R (.bool af) ae) /\
 ((decide ((((a9 : Nat) : Int) : Int) <= 6)) = false ->
 R (.bool false) a7)) /\
 (t5 = false ->
 (false = true ->
 ∃ ag, Loads P 3 ((⟨r, 0, none⟩ : Addr).add 2) (.int .i64 ag) a7 /\ Calls P 125 ⟨[.int .i64 ag, .int .i64 0, .int .i64 30]⟩ a7 fun ah ai =>
 ∃ aj, ah = .returned (.bool aj) /\
 R (.bool aj) ai) /\
 (false = false ->
 R (.bool false) a7))
theorem spec_DecOk_ret {d0 : Bool} {a : Option Addr} {a0 a1 : Nat} {d2 : Int} (h : spec_DecOk d0 a a0 a1 d2 w R) : Ret P 205 [.agg #[.bool d0, .slice a a0 a1, .int .i64 d2]] w R := Ret.of_fsem Tryz.func205 rfl (Eq.mp (show _ = fsem P Tryz.f205 (fun k => []) _ R w from by kernel_rfl) h)
def spec_l07Both_j0 (r a0 : Nat) (a1 a2 : Nat) (scale : Int) (W : World) (R : Value -> World -> Prop) : Prop :=
 ∃ a3 a4 a5 a6, (∀ wv_4, Ext W.drew wv_4 -> Loads P 31 ((⟨r, 0, none⟩ : Addr).add 0) (.agg #[.bool a3, .slice a4 a5 a6]) wv_4) /\ ∃ a7, (∀ wv_5, Ext W.drew wv_5 -> Loads P 3 ((⟨r, 0, none⟩ : Addr).add 2) (.int .i64 a7) wv_5) /\ ∃ a8 : Int, a8 = IntKind.wrap .i64 (scale - a7) /\ Calls P 251 ⟨[.int .i64 a8]⟩ W.drew fun e a9 =>
 ∃ aa ab ac ae, e = .returned (.agg #[.bool aa, .slice ab ac ae]) /\
 Ext W.drew a9 /\ Calls P 127 ⟨[.agg #[.bool a3, .slice a4 a5 a6], .agg #[.bool aa, .slice ab ac ae]]⟩ a9 fun af ag =>
 ∃ ah ai aj ak, af = .returned (.agg #[.bool ah, .slice ai aj ak]) /\
 Ext a9 ag /\ ∃ al am an ao, (∀ wv_8, Ext W.drew wv_8 -> Loads P 31 ((⟨a0, 0, none⟩ : Addr).add 0) (.agg #[.bool al, .slice am an ao]) wv_8) /\ ∃ ap, (∀ wv_9, Ext W.drew wv_9 -> Loads P 3 ((⟨a0, 0, none⟩ : Addr).add 2) (.int .i64 ap) wv_9) /\ ∃ aq : Int, aq = IntKind.wrap .i64 (scale - ap) /\ Calls P 251 ⟨[.int .i64 aq]⟩ ag fun ar au =>
 ∃ av aw ax ay, ar = .returned (.agg #[.bool av, .slice aw ax ay]) /\
 Ext ag au /\ Calls P 127 ⟨[.agg #[.bool al, .slice am an ao], .agg #[.bool av, .slice aw ax ay]]⟩ au fun az b0 =>
 ∃ b1 b2 b3 b4, az = .returned (.agg #[.bool b1, .slice b2 b3 b4]) /\
 ∃ wv_12, Stores P 31 ⟨a1, 0, none⟩ (.agg #[.bool ah, .slice ai aj ak]) b0 wv_12 /\
 ∃ wv_13, Stores P 31 ⟨a2, 0, none⟩ (.agg #[.bool b1, .slice b2 b3 b4]) wv_12 wv_13 /\
 ∃ r0 b5 b6 b7, Loads P 31 ⟨a1, 0, none⟩ (.agg #[.bool r0, .slice b5 b6 b7]) wv_13 /\ ∃ r0_1 b8 b9 ba, Loads P 31 ⟨a2, 0, none⟩ (.agg #[.bool r0_1, .slice b8 b9 ba]) wv_13 /\ R (.tuple #[.agg #[.bool r0, .slice b5 b6 b7], .agg #[.bool r0_1, .slice b8 b9 ba], .int .i64 scale]) wv_13
def spec_l07Both (d0 : Bool) (a0 : Option Addr) (a1 a2 : Nat) (d2 : Int) (e0 : Bool) (a3 : Option Addr) (a4 a5 : Nat) (e2 : Int) (w : World) (R : Value -> World -> Prop) : Prop :=
 ∀ r wv, New w (.cells ⟨[.bool d0, .slice a0 a1 a2, .int .i64 d2]⟩ 63 (0, 0)) r wv ->
 ∀ a6 a7, New wv (.cells ⟨[.bool e0, .slice a3 a4 a5, .int .i64 e2]⟩ 63 (0, 0)) a6 a7 ->
 ∀ a8 a9, New a7 (.cells ⟨[.bool false, .slice none 0 0]⟩ 31 (0, 0)) a8 a9 ->
 ∀ aa ab, New a9 (.cells ⟨[.bool false, .slice none 0 0]⟩ 31 (0, 0)) aa ab ->
 ∃ t9, Loads P 3 ((⟨r, 0, none⟩ : Addr).add 2) (.int .i64 t9) ab /\ ∃ ac, Loads P 3 ((⟨a6, 0, none⟩ : Addr).add 2) (.int .i64 ac) ab /\ ((decide ((t9 : Int) < ac)) = true ->
 ∃ ae, Loads P 3 ((⟨a6, 0, none⟩ : Addr).add 2) (.int .i64 ae) ab /\ spec_l07Both_j0 r a6 a8 aa ae ab R) /\
 ((decide ((t9 : Int) < ac)) = false ->
 spec_l07Both_j0 r a6 a8 aa t9 ab R)
theorem spec_l07Both_ret {d0 : Bool} {a : Option Addr} {a0 a1 : Nat} {d2 : Int} {e0 : Bool} {a2 : Option Addr} {a3 a4 : Nat} {e2 : Int} (h : spec_l07Both d0 a a0 a1 d2 e0 a2 a3 a4 e2 w R) : Ret P 206 [.agg #[.bool d0, .slice a a0 a1, .int .i64 d2], .agg #[.bool e0, .slice a2 a3 a4, .int .i64 e2]] w R := Ret.of_fsem Tryz.func206 rfl (Eq.mp (show _ = fsem P Tryz.f206 (fun k => []) _ R w from by kernel_rfl) h)
def spec_l02Cap (a0 : Option Addr) (a1 a2 : Nat) (w : World) (R : Value -> World -> Prop) : Prop :=
 Calls P 243 ⟨[.slice a0 a1 a2]⟩ w fun e wv =>
 ∃ a3 a4 a5, e = .returned (.slice a3 a4 a5) /\
 ((decide ((50 : Int) < ((a4 : Nat) : Int))) = true ->
 R (.slice none 0 0) wv) /\
 ((decide ((50 : Int) < ((a4 : Nat) : Int))) = false ->
 R (.slice a3 a4 a5) wv)
theorem spec_l02Cap_ret {a : Option Addr} {a0 a1 : Nat} (h : spec_l02Cap a a0 a1 w R) : Ret P 207 [.slice a a0 a1] w R := Ret.of_fsem Tryz.func207 rfl (Eq.mp (show _ = fsem P Tryz.f207 (fun k => []) _ R w from by kernel_rfl) h)
def spec_RatMul_j0 (r a0 a1 : Nat) (W : World) (R : Value -> World -> Prop) : Prop :=
 ∃ a2, (∀ wv_5, Ext W.drew wv_5 -> Loads P 4 (((⟨r, 0, none⟩ : Addr).add 0).add 0) (.bool a2) wv_5) /\ ∃ a3, (∀ wv_6, Ext W.drew wv_6 -> Loads P 4 (((⟨a0, 0, none⟩ : Addr).add 0).add 0) (.bool a3) wv_6) /\ ∃ a4 a5 a6, (∀ wv_7, Ext W.drew wv_7 -> Loads P 22 (((⟨r, 0, none⟩ : Addr).add 0).add 1) (.slice a4 a5 a6) wv_7) /\ ∃ a7 a8 a9, (∀ wv_8, Ext W.drew wv_8 -> Loads P 22 (((⟨a0, 0, none⟩ : Addr).add 0).add 1) (.slice a7 a8 a9) wv_8) /\ Calls P 175 ⟨[.slice a4 a5 a6, .slice a7 a8 a9]⟩ W.drew fun aa ab =>
 ∃ ac ae af, aa = .returned (.slice ac ae af) /\
 Ext W.drew ab /\ ∃ ag ah ai, (∀ wv_10, Ext W.drew wv_10 -> Loads P 22 ((⟨r, 0, none⟩ : Addr).add 2) (.slice ag ah ai) wv_10) /\ ∃ aj ak al, (∀ wv_11, Ext W.drew wv_11 -> Loads P 22 ((⟨a0, 0, none⟩ : Addr).add 2) (.slice aj ak al) wv_11) /\ Calls P 175 ⟨[.slice ag ah ai, .slice aj ak al]⟩ ab fun am an =>
 ∃ ao ap aq, am = .returned (.slice ao ap aq) /\
 Ext ab an /\ Calls P 177 ⟨[(.bool (!(a2 == a3))), .slice ac ae af, .slice ao ap aq]⟩ an fun ar au =>
 ∃ av aw ax ay az b0 b1 b2, ar = .returned (.tuple #[.agg #[.bool av, .slice aw ax ay, .slice az b0 b1], .bool b2]) /\
 ∃ wv_14, Stores P 53 ⟨a1, 0, none⟩ (.agg #[.bool av, .slice aw ax ay, .slice az b0 b1]) au wv_14 /\
 ∃ r0_2 b3 b4 b5 b6 b7 b8, Loads P 53 ⟨a1, 0, none⟩ (.agg #[.bool r0_2, .slice b3 b4 b5, .slice b6 b7 b8]) wv_14 /\ R (.tuple #[.agg #[.bool r0_2, .slice b3 b4 b5, .slice b6 b7 b8], .bool b2]) wv_14
def spec_RatMul (r0 : Bool) (a0 : Option Addr) (a1 a2 : Nat) (a3 : Option Addr) (a4 a5 : Nat) (s0 : Bool) (a6 : Option Addr) (a7 a8 : Nat) (a9 : Option Addr) (aa ab : Nat) (w : World) (R : Value -> World -> Prop) : Prop :=
 ∀ r wv, New w (.cells ⟨[.bool r0, .slice a0 a1 a2, .slice a3 a4 a5]⟩ 53 (0, 0)) r wv ->
 ∀ ac ae, New wv (.cells ⟨[.bool s0, .slice a6 a7 a8, .slice a9 aa ab]⟩ 53 (0, 0)) ac ae ->
 ∀ af ag, New ae (.cells ⟨[.bool false, .slice none 0 0, .slice none 0 0]⟩ 53 (0, 0)) af ag ->
 ∃ ah ai aj ak al am an, Loads P 53 ⟨r, 0, none⟩ (.agg #[.bool ah, .slice ai aj ak, .slice al am an]) ag /\ Calls P 174 ⟨[.agg #[.bool ah, .slice ai aj ak, .slice al am an]]⟩ ag fun e ao =>
 ∃ t7, e = .returned (.bool t7) /\
 ((!t7) = true ->
 (true = true ->
 ∃ wv_4, Stores P 53 ⟨af, 0, none⟩ (.agg #[.bool false, .slice none 0 0, .slice none 0 0]) ao wv_4 /\
 ∃ r0_1 ap aq ar au av aw, Loads P 53 ⟨af, 0, none⟩ (.agg #[.bool r0_1, .slice ap aq ar, .slice au av aw]) wv_4 /\ R (.tuple #[.agg #[.bool r0_1, .slice ap aq ar, .slice au av aw], .bool false]) wv_4) /\
 (true = false ->
 spec_RatMul_j0 r ac af ao R)) /\
 ((!t7) = false ->
 ∃ ax ay az b0 b1 b2 b3, Loads P 53 ⟨ac, 0, none⟩ (.agg #[.bool ax, .slice ay az b0, .slice b1 b2 b3]) ao /\ Calls P 174 ⟨[.agg #[.bool ax, .slice ay az b0, .slice b1 b2 b3]]⟩ ao fun b4 b5 =>
 ∃ b6, b4 = .returned (.bool b6) /\
 ((!b6) = true ->
 ∃ wv_16, Stores P 53 ⟨af, 0, none⟩ (.agg #[.bool false, .slice none 0 0, .slice none 0 0]) b5 wv_16 /\
 ∃ r0_3 b7 b8 b9 ba bb bc, Loads P 53 ⟨af, 0, none⟩ (.agg #[.bool r0_3, .slice b7 b8 b9, .slice ba bb bc]) wv_16 /\ R (.tuple #[.agg #[.bool r0_3, .slice b7 b8 b9, .slice ba bb bc], .bool false]) wv_16) /\
 ((!b6) = false ->
 spec_RatMul_j0 r ac af b5 R))
theorem spec_RatMul_ret {r0 : Bool} {a : Option Addr} {a0 a1 : Nat} {a2 : Option Addr} {a3 a4 : Nat} {s0 : Bool} {a5 : Option Addr} {a6 a7 : Nat} {a8 : Option Addr} {a9 b : Nat} (h : spec_RatMul r0 a a0 a1 a2 a3 a4 s0 a5 a6 a7 a8 a9 b w R) : Ret P 208 [.agg #[.bool r0, .slice a a0 a1, .slice a2 a3 a4], .agg #[.bool s0, .slice a5 a6 a7, .slice a8 a9 b]] w R := Ret.of_fsem Tryz.func208 rfl (Eq.mp (show _ = fsem P Tryz.f208 (fun k => []) _ R w from by kernel_rfl) h)
def spec_MoneyRat (m0 : ByteArray) (m1 : Bool) (a0 : Option Addr) (a1 a2 : Nat) (w : World) (R : Value -> World -> Prop) : Prop :=
 ∀ r wv, New w (.cells ⟨[.string m0, .bool m1, .slice a0 a1 a2]⟩ 33 (0, 0)) r wv ->
 ∀ a3 a4, New wv (.cells ⟨[.bool false, .slice none 0 0, .slice none 0 0]⟩ 53 (0, 0)) a3 a4 ->
 ∃ a5 a6 a7 a8 a9, Loads P 33 ⟨r, 0, none⟩ (.agg #[.string a5, .bool a6, .slice a7 a8 a9]) a4 /\ Calls P 67 ⟨[.agg #[.string a5, .bool a6, .slice a7 a8 a9]]⟩ a4 fun e aa =>
 ∃ t6, e = .returned (.bool t6) /\
 ((!t6) = true ->
 ∃ wv_3, Stores P 53 ⟨a3, 0, none⟩ (.agg #[.bool false, .slice none 0 0, .slice none 0 0]) aa wv_3 /\
 ∃ r0 ab ac ae af ag ah, Loads P 53 ⟨a3, 0, none⟩ (.agg #[.bool r0, .slice ab ac ae, .slice af ag ah]) wv_3 /\ R (.agg #[.bool r0, .slice ab ac ae, .slice af ag ah]) wv_3) /\
 ((!t6) = false ->
 ∃ ai aj ak al, Loads P 31 ((⟨r, 0, none⟩ : Addr).add 1) (.agg #[.bool ai, .slice aj ak al]) aa /\ Calls P 264 ⟨[.agg #[.bool ai, .slice aj ak al]]⟩ aa fun am an =>
 ∃ ao ap aq ar au av aw ax, am = .returned (.tuple #[.agg #[.bool ao, .slice ap aq ar, .slice au av aw], .bool ax]) /\
 ∀ ay az, New an (.cells ⟨[.bool false, .slice none 0 0, .slice none 0 0]⟩ 53 (0, 0)) ay az ->
 ∃ wv_6, Stores P 53 ⟨ay, 0, none⟩ (.agg #[.bool ao, .slice ap aq ar, .slice au av aw]) az wv_6 /\
 ∃ b0 b1 b2 b3 b4 b5 b6, Loads P 53 ⟨ay, 0, none⟩ (.agg #[.bool b0, .slice b1 b2 b3, .slice b4 b5 b6]) wv_6 /\ ∃ wv_7, Stores P 53 ⟨a3, 0, none⟩ (.agg #[.bool b0, .slice b1 b2 b3, .slice b4 b5 b6]) wv_6 wv_7 /\
 ∃ r0_1 b7 b8 b9 ba bb bc, Loads P 53 ⟨a3, 0, none⟩ (.agg #[.bool r0_1, .slice b7 b8 b9, .slice ba bb bc]) wv_7 /\ R (.agg #[.bool r0_1, .slice b7 b8 b9, .slice ba bb bc]) wv_7)
theorem spec_MoneyRat_ret {m0 : ByteArray} {m1 : Bool} {a : Option Addr} {a0 a1 : Nat} (h : spec_MoneyRat m0 m1 a a0 a1 w R) : Ret P 209 [.agg #[.string m0, .bool m1, .slice a a0 a1]] w R := Ret.of_fsem Tryz.func209 rfl (Eq.mp (show _ = fsem P Tryz.f209 (fun k => []) _ R w from by kernel_rfl) h)
def spec_DecRat (d0 : Bool) (a0 : Option Addr) (a1 a2 : Nat) (d2 : Int) (w : World) (R : Value -> World -> Prop) : Prop :=
 ∀ r wv, New w (.cells ⟨[.bool d0, .slice a0 a1 a2, .int .i64 d2]⟩ 63 (0, 0)) r wv ->
 ∀ a3 a4, New wv (.cells ⟨[.bool false, .slice none 0 0, .slice none 0 0]⟩ 53 (0, 0)) a3 a4 ->
 ∃ a5 a6 a7 a8 a9, Loads P 63 ⟨r, 0, none⟩ (.agg #[.bool a5, .slice a6 a7 a8, .int .i64 a9]) a4 /\ Calls P 205 ⟨[.agg #[.bool a5, .slice a6 a7 a8, .int .i64 a9]]⟩ a4 fun e aa =>
 ∃ t6, e = .returned (.bool t6) /\
 ((!t6) = true ->
 ∃ wv_3, Stores P 53 ⟨a3, 0, none⟩ (.agg #[.bool false, .slice none 0 0, .slice none 0 0]) aa wv_3 /\
 ∃ r0 ab ac ae af ag ah, Loads P 53 ⟨a3, 0, none⟩ (.agg #[.bool r0, .slice ab ac ae, .slice af ag ah]) wv_3 /\ R (.agg #[.bool r0, .slice ab ac ae, .slice af ag ah]) wv_3) /\
 ((!t6) = false ->
 ∃ ai aj ak al, (∀ wv_4, Ext aa.drew wv_4 -> Loads P 31 ((⟨r, 0, none⟩ : Addr).add 0) (.agg #[.bool ai, .slice aj ak al]) wv_4) /\ ∃ am, (∀ wv_5, Ext aa.drew wv_5 -> Loads P 3 ((⟨r, 0, none⟩ : Addr).add 2) (.int .i64 am) wv_5) /\ ∀ (ss : List (Option Nat)) (an : World), Fl [.cells ⟨[.bool false, .slice none 0 0, .slice none 0 0]⟩ 53 (0, 0)] [none] aa.drew ss an ->
 Calls P 251 ⟨[.int .i64 am]⟩ an fun ao ap =>
 ∃ aq ar au av, ao = .returned (.agg #[.bool aq, .slice ar au av]) /\
 Ext an ap /\ ∀ (ss_1 : List (Option Nat)) (aw : World), Fl [.cells ⟨[.bool false, .slice none 0 0, .slice none 0 0]⟩ 53 (0, 0)] ss ap ss_1 aw ->
 Calls P 265 ⟨[.agg #[.bool ai, .slice aj ak al], .agg #[.bool aq, .slice ar au av]]⟩ aw fun ax ay =>
 ∃ az b0 b1 b2 b3 b4 b5 b6, ax = .returned (.tuple #[.agg #[.bool az, .slice b0 b1 b2, .slice b3 b4 b5], .bool b6]) /\
 ∀ (ss_2 : List (Option Nat)) (b7 : World) (b8 : Nat), Fl [.cells ⟨[.bool false, .slice none 0 0, .slice none 0 0]⟩ 53 (0, 0)] ss_1 ay ss_2 b7 -> ss_2[0]? = some (some b8) ->
 ∃ wv_11, Stores P 53 ⟨b8, 0, none⟩ (.agg #[.bool az, .slice b0 b1 b2, .slice b3 b4 b5]) b7 wv_11 /\
 ∃ b9 ba bb bc bd be bf, Loads P 53 ⟨b8, 0, none⟩ (.agg #[.bool b9, .slice ba bb bc, .slice bd be bf]) wv_11 /\ ∃ wv_12, Stores P 53 ⟨a3, 0, none⟩ (.agg #[.bool b9, .slice ba bb bc, .slice bd be bf]) wv_11 wv_12 /\
 ∃ r0_1 bg bh bi bj bk bl, Loads P 53 ⟨a3, 0, none⟩ (.agg #[.bool r0_1, .slice bg bh bi, .slice bj bk bl]) wv_12 /\ R (.agg #[.bool r0_1, .slice bg bh bi, .slice bj bk bl]) wv_12)
theorem spec_DecRat_ret {d0 : Bool} {a : Option Addr} {a0 a1 : Nat} {d2 : Int} (h : spec_DecRat d0 a a0 a1 d2 w R) : Ret P 210 [.agg #[.bool d0, .slice a a0 a1, .int .i64 d2]] w R := Ret.of_fsem Tryz.func210 rfl (Eq.mp (show _ = fsem P Tryz.f210 (fun k => []) _ R w from by kernel_rfl) h)
def spec_RatMoney (cur : ByteArray) (r0 : Bool) (a0 : Option Addr) (a1 a2 : Nat) (a3 : Option Addr) (a4 a5 : Nat) (mode : Int) (w : World) (R : Value -> World -> Prop) : Prop :=
 ∀ r wv, New w (.cells ⟨[.bool r0, .slice a0 a1 a2, .slice a3 a4 a5]⟩ 53 (0, 0)) r wv ->
 ∀ a6 a7, New wv (.cells ⟨[.string ByteArray.empty, .bool false, .slice none 0 0]⟩ 33 (0, 0)) a6 a7 ->
 ∀ a8 a9, New a7 (.cells ⟨[.bool false, .slice none 0 0, .slice none 0 0]⟩ 53 (0, 0)) a8 a9 ->
 ∃ aa ab ac ae af ag ah, Loads P 53 ⟨r, 0, none⟩ (.agg #[.bool aa, .slice ab ac ae, .slice af ag ah]) a9 /\ Calls P 234 ⟨[.agg #[.bool aa, .slice ab ac ae, .slice af ag ah], .int .i64 mode]⟩ a9 fun e ai =>
 ∃ aj ak al am an ao ap aq ar au av aw, e = .returned (.tuple #[.agg #[.bool aj, .slice ak al am], .agg #[.bool an, .slice ao ap aq, .slice ar au av], .bool aw]) /\
 ∀ ax ay, New ai (.cells ⟨[.bool false, .slice none 0 0]⟩ 31 (0, 0)) ax ay ->
 ∀ az b0, New ay (.cells ⟨[.bool false, .slice none 0 0, .slice none 0 0]⟩ 53 (0, 0)) az b0 ->
 ∃ wv_6, Stores P 31 ⟨ax, 0, none⟩ (.agg #[.bool aj, .slice ak al am]) b0 wv_6 /\
 ∃ wv_7, Stores P 53 ⟨az, 0, none⟩ (.agg #[.bool an, .slice ao ap aq, .slice ar au av]) wv_6 wv_7 /\
 ∃ b1 b2 b3 b4, Loads P 31 ⟨ax, 0, none⟩ (.agg #[.bool b1, .slice b2 b3 b4]) wv_7 /\ Calls P 132 ⟨[.string cur, .agg #[.bool b1, .slice b2 b3 b4]]⟩ wv_7 fun b5 b6 =>
 ∃ b7 b8 b9 ba bb bc, b5 = .returned (.tuple #[.agg #[.string b7, .bool b8, .slice b9 ba bb], .bool bc]) /\
 ∀ bd be, New b6 (.cells ⟨[.string ByteArray.empty, .bool false, .slice none 0 0]⟩ 33 (0, 0)) bd be ->
 ∃ wv_10, Stores P 33 ⟨bd, 0, none⟩ (.agg #[.string b7, .bool b8, .slice b9 ba bb]) be wv_10 /\
 ((!aw) = true ->
 (true = true ->
 ∃ wv_11, Stores P 33 ⟨a6, 0, none⟩ (.agg #[.string ByteArray.empty, .bool false, .slice none 0 0]) wv_10 wv_11 /\
 ∃ wv_12, Stores P 53 ⟨a8, 0, none⟩ (.agg #[.bool false, .slice none 0 0, .slice none 0 0]) wv_11 wv_12 /\
 ∃ r0_1 r1 bf bg bh, Loads P 33 ⟨a6, 0, none⟩ (.agg #[.string r0_1, .bool r1, .slice bf bg bh]) wv_12 /\ ∃ r0_2 bi bj bk bl bm bn, Loads P 53 ⟨a8, 0, none⟩ (.agg #[.bool r0_2, .slice bi bj bk, .slice bl bm bn]) wv_12 /\ R (.tuple #[.agg #[.string r0_1, .bool r1, .slice bf bg bh], .agg #[.bool r0_2, .slice bi bj bk, .slice bl bm bn], .bool false]) wv_12) /\
 (true = false ->
 ∃ blks : List Nat, ∃ bo bp bq br bs, (∀ wv_13, EX blks wv_10.drew wv_13 -> Loads P 33 ⟨bd, 0, none⟩ (.agg #[.string bo, .bool bp, .slice bq br bs]) wv_13) /\ ∃ bt bu bv bw bx bz c0, (∀ wv_14, EX blks wv_10.drew wv_14 -> Loads P 53 ⟨az, 0, none⟩ (.agg #[.bool bt, .slice bu bv bw, .slice bx bz c0]) wv_14) /\ ∃ wv_15, Stores P 33 ⟨a6, 0, none⟩ (.agg #[.string bo, .bool bp, .slice bq br bs]) wv_10.drew wv_15 /\
 EX blks wv_10.drew wv_15 /\ ∃ wv_16, Stores P 53 ⟨a8, 0, none⟩ (.agg #[.bool bt, .slice bu bv bw, .slice bx bz c0]) wv_15 wv_16 /\
 ∃ r0_3 r1_1 c1 c2 c3, Loads P 33 ⟨a6, 0, none⟩ (.agg #[.string r0_3, .bool r1_1, .slice c1 c2 c3]) wv_16 /\ ∃ r0_4 c4 c5 c6 c7 c8 c9, Loads P 53 ⟨a8, 0, none⟩ (.agg #[.bool r0_4, .slice c4 c5 c6, .slice c7 c8 c9]) wv_16 /\ R (.tuple #[.agg #[.string r0_3, .bool r1_1, .slice c1 c2 c3], .agg #[.bool r0_4, .slice c4 c5 c6, .slice c7 c8 c9], .bool true]) wv_16)) /\
 ((!aw) = false ->
 ((!bc) = true ->
 ∃ wv_17, Stores P 33 ⟨a6, 0, none⟩ (.agg #[.string ByteArray.empty, .bool false, .slice none 0 0]) wv_10 wv_17 /\
 ∃ wv_18, Stores P 53 ⟨a8, 0, none⟩ (.agg #[.bool false, .slice none 0 0, .slice none 0 0]) wv_17 wv_18 /\
 ∃ r0_5 r1_2 ca cb cc, Loads P 33 ⟨a6, 0, none⟩ (.agg #[.string r0_5, .bool r1_2, .slice ca cb cc]) wv_18 /\ ∃ r0_6 cd ce cf cg ch ci, Loads P 53 ⟨a8, 0, none⟩ (.agg #[.bool r0_6, .slice cd ce cf, .slice cg ch ci]) wv_18 /\ R (.tuple #[.agg #[.string r0_5, .bool r1_2, .slice ca cb cc], .agg #[.bool r0_6, .slice cd ce cf, .slice cg ch ci], .bool false]) wv_18) /\
 ((!bc) = false ->
 ∃ blks_1 : List Nat, ∃ cj ck cl cm cn, (∀ wv_19, EX blks_1 wv_10.drew wv_19 -> Loads P 33 ⟨bd, 0, none⟩ (.agg #[.string cj, .bool ck, .slice cl cm cn]) wv_19) /\ ∃ co cp cq cr cs ct cu, (∀ wv_20, EX blks_1 wv_10.drew wv_20 -> Loads P 53 ⟨az, 0, none⟩ (.agg #[.bool co, .slice cp cq cr, .slice cs ct cu]) wv_20) /\ ∃ wv_21, Stores P 33 ⟨a6, 0, none⟩ (.agg #[.string cj, .bool ck, .slice cl cm cn]) wv_10.drew wv_21 /\
 EX blks_1 wv_10.drew wv_21 /\ ∃ wv_22, Stores P 53 ⟨a8, 0, none⟩ (.agg #[.bool co, .slice cp cq cr, .slice cs ct cu]) wv_21 wv_22 /\
 ∃ r0_7 r1_3 cv cw cx, Loads P 33 ⟨a6, 0, none⟩ (.agg #[.string r0_7, .bool r1_3, .slice cv cw cx]) wv_22 /\ ∃ r0_8 cy cz d0 d1 d2 d3, Loads P 53 ⟨a8, 0, none⟩ (.agg #[.bool r0_8, .slice cy cz d0, .slice d1 d2 d3]) wv_22 /\ R (.tuple #[.agg #[.string r0_7, .bool r1_3, .slice cv cw cx], .agg #[.bool r0_8, .slice cy cz d0, .slice d1 d2 d3], .bool true]) wv_22))
theorem spec_RatMoney_ret {a : ByteArray} {r0 : Bool} {a0 : Option Addr} {a1 a2 : Nat} {a3 : Option Addr} {a4 a5 : Nat} {a6 : Int} (h : spec_RatMoney a r0 a0 a1 a2 a3 a4 a5 a6 w R) : Ret P 211 [.string a, .agg #[.bool r0, .slice a0 a1 a2, .slice a3 a4 a5], .int .i64 a6] w R := Ret.of_fsem Tryz.func211 rfl (Eq.mp (show _ = fsem P Tryz.f211 (fun k => []) _ R w from by kernel_rfl) h)
end Go.Proofs.YtfehpaekbbmkcaaGreatDoor
