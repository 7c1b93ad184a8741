/-
  Parts of the proof of taxSums_holds: G10, G11, GData, SxMem, Nm, SxData, SxOwn, DInts.
  Conditions: none.
-/
import Derived.Laws.AppendOwn
import Derived.Laws.CopyRow
import Derived.Test.YtfehpaekbbmkcaaGreatDoorTs2

namespace Go.Proofs.YtfehpaekbbmkcaaGreatDoor
open Go Go.Proofs.YtfehpaekbbmkcaaGreatDoor.Sx
set_option linter.unusedVariables false
set_option maxRecDepth 100000
def spec_RatNeg (r0 : Bool) (a0 : Option Addr) (a1 a2 : Nat) (a3 : Option Addr) (a4 a5 : Nat) (w : World) (R : Value -> World -> Prop) : Prop :=
 ∀ r wv, New w (.cells ⟨[.bool r0, .slice a0 a1 a2, .slice a3 a4 a5]⟩ 53 (0, 0)) r wv ->
 ∀ a6 a7, New wv (.cells ⟨[.bool false, .slice none 0 0, .slice none 0 0]⟩ 53 (0, 0)) a6 a7 ->
 ∃ a8 a9 aa ab ac ae af, Loads P 53 ⟨r, 0, none⟩ (.agg #[.bool a8, .slice a9 aa ab, .slice ac ae af]) a7 /\ Calls P 174 ⟨[.agg #[.bool a8, .slice a9 aa ab, .slice ac ae af]]⟩ a7 fun e ag =>
 ∃ t5, e = .returned (.bool t5) /\
 ((!t5) = true ->
 ∃ wv_3, Stores P 53 ⟨a6, 0, none⟩ (.agg #[.bool false, .slice none 0 0, .slice none 0 0]) ag wv_3 /\
 ∃ r0_1 ah ai aj ak al am, Loads P 53 ⟨a6, 0, none⟩ (.agg #[.bool r0_1, .slice ah ai aj, .slice ak al am]) wv_3 /\ R (.tuple #[.agg #[.bool r0_1, .slice ah ai aj, .slice ak al am], .bool false]) wv_3) /\
 ((!t5) = false ->
 ∃ an ao ap aq, (∀ wv_4, Ext ag.drew wv_4 -> Loads P 31 ((⟨r, 0, none⟩ : Addr).add 0) (.agg #[.bool an, .slice ao ap aq]) wv_4) /\ ∀ (ss : List (Option Nat)) (ar : World), Fl [.cells ⟨[]⟩ 3 (0, 0)] [none] ag.drew ss ar ->
 Calls P 237 ⟨[.agg #[.bool an, .slice ao ap aq]]⟩ ar fun au av =>
 ∃ aw ax ay az, au = .returned (.agg #[.bool aw, .slice ax ay az]) /\
 Ext ar av /\ ∃ b0 b1 b2, (∀ wv_7, Ext ag.drew wv_7 -> Loads P 22 ((⟨r, 0, none⟩ : Addr).add 2) (.slice b0 b1 b2) wv_7) /\ ∀ (ss_1 : List (Option Nat)) (b3 : World) (b4 : Nat), Fl [.cells ⟨[]⟩ 3 (0, 0)] ss av ss_1 b3 -> ss_1[0]? = some (some b4) ->
 ∃ b5 b6 b7 b8, Appends P [22, 22] [(.slice (some ⟨b4, 0, none⟩) 0 0), .slice b0 b1 b2] (.slice b5 b6 b7) b3 b8 /\
 ∃ wv_10, Stores P 53 ⟨a6, 0, none⟩ (.agg #[.bool aw, .slice ax ay az, .slice b5 b6 b7]) b8 wv_10 /\
 ∃ r0_2 b9 ba bb bc bd be, Loads P 53 ⟨a6, 0, none⟩ (.agg #[.bool r0_2, .slice b9 ba bb, .slice bc bd be]) wv_10 /\ R (.tuple #[.agg #[.bool r0_2, .slice b9 ba bb, .slice bc bd be], .bool true]) wv_10)
theorem spec_RatNeg_ret {r0 : Bool} {r1_p : Option Addr} {r1_n : Nat} {r1_c : Nat} {r2_p : Option Addr} {r2_n : Nat} {r2_c : Nat} {w : World} {R : Value → World → Prop} (h : spec_RatNeg r0 r1_p r1_n r1_c r2_p r2_n r2_c w R) : Ret P 235 [(.agg #[(.bool r0), (.slice r1_p r1_n r1_c), (.slice r2_p r2_n r2_c)])] w R :=
  Ret.of_fsem Tryz.func235 rfl (Eq.mp (show _ = fsem P Tryz.f235 (fun k => []) _ R w from by kernel_rfl) h)
def spec_IntNeg (x0 : Bool) (a0 : Option Addr) (a1 a2 : Nat) (w : World) (R : Value -> World -> Prop) : Prop :=
 ∀ r wv, New w (.cells ⟨[.bool x0, .slice a0 a1 a2]⟩ 31 (0, 0)) r wv ->
 ∀ a3 a4, New wv (.cells ⟨[.bool false, .slice none 0 0]⟩ 31 (0, 0)) a3 a4 ->
 ∃ a5 a6 a7 a8, Loads P 31 ⟨r, 0, none⟩ (.agg #[.bool a5, .slice a6 a7 a8]) a4 /\ Calls P 151 ⟨[.agg #[.bool a5, .slice a6 a7 a8]]⟩ a4 fun e a9 =>
 ∃ t4, e = .returned (.bool t4) /\
 ((!t4) = true ->
 ∃ wv_3, Stores P 31 ⟨a3, 0, none⟩ (.agg #[.bool false, .slice none 0 0]) a9 wv_3 /\
 ∃ r0 aa ab ac, Loads P 31 ⟨a3, 0, none⟩ (.agg #[.bool r0, .slice aa ab ac]) wv_3 /\ R (.agg #[.bool r0, .slice aa ab ac]) wv_3) /\
 ((!t4) = false ->
 ∃ t8, Loads P 4 ((⟨r, 0, none⟩ : Addr).add 0) (.bool t8) a9 /\ ∃ ae af ag, Loads P 22 ((⟨r, 0, none⟩ : Addr).add 1) (.slice ae af ag) a9 /\ Calls P 113 ⟨[(.bool (!t8)), .slice ae af ag]⟩ a9 fun ah ai =>
 ∃ aj ak al am, ah = .returned (.agg #[.bool aj, .slice ak al am]) /\
 ∃ wv_5, Stores P 31 ⟨a3, 0, none⟩ (.agg #[.bool aj, .slice ak al am]) ai wv_5 /\
 ∃ r0_1 an ao ap, Loads P 31 ⟨a3, 0, none⟩ (.agg #[.bool r0_1, .slice an ao ap]) wv_5 /\ R (.agg #[.bool r0_1, .slice an ao ap]) wv_5)
theorem spec_IntNeg_ret {x0 : Bool} {x1_p : Option Addr} {x1_n : Nat} {x1_c : Nat} {w : World} {R : Value → World → Prop} (h : spec_IntNeg x0 x1_p x1_n x1_c w R) : Ret P 237 [(.agg #[(.bool x0), (.slice x1_p x1_n x1_c)])] w R :=
  Ret.of_fsem Tryz.func237 rfl (Eq.mp (show _ = fsem P Tryz.f237 (fun k => []) _ R w from by kernel_rfl) h)
def impl_divStep_j0 (q_1 : Int) (W : World) (R : Value -> World -> Prop) : Prop :=
 R (.int .i64 q_1) W
def impl_divStep_j1 (q_2 : Int) (a0 : World) (R : Value -> World -> Prop) : Prop :=
 R (.int .i64 q_2) a0
def impl_divStep_j2 (q_3 : Int) (a0 : World) (R : Value -> World -> Prop) : Prop :=
 R (.int .i64 q_3) a0
def impl_divStep_j3 (q_4 : Int) (a0 : World) (R : Value -> World -> Prop) : Prop :=
 R (.int .i64 q_4) a0
def impl_divStep (a0 : Option Addr) (a1 a2 : Nat) (a3 : Option Addr) (a4 a5 : Nat) (w : World) (R : Value -> World -> Prop) : Prop :=
 (0 <= (((a4 : Nat) : Int) : Int) /\ (((a4 : Nat) : Int) : Int) < (a1 : Nat)) /\ ptrS a0 fun ad => ∃ a6, (∀ wv, Ext w.drew wv -> Loads P 3 (ad.add (a4 * 1)) (.int .i64 a6) wv) /\ ∃ a7 : Int, a7 = IntKind.wrap .i64 (a6 * 1000000000) /\ ∃ a8 : Int, a8 = IntKind.wrap .i64 (((a4 : Nat) : Int) - 1) /\ (0 <= (a8 : Int) /\ (a8 : Int) < (a1 : Nat)) /\ ptrS a0 fun a9 => ∃ aa, (∀ wv_1, Ext w.drew wv_1 -> Loads P 3 (a9.add (a8.toNat * 1)) (.int .i64 aa) wv_1) /\ ∃ ab : Int, ab = IntKind.wrap .i64 (a7 + aa) /\ ∃ ac : Int, ac = IntKind.wrap .i64 (((a4 : Nat) : Int) - 1) /\ (0 <= (ac : Int) /\ (ac : Int) < (a4 : Nat)) /\ ptrS a3 fun ae => ∃ af, Loads P 3 (ae.add (ac.toNat * 1)) (.int .i64 af) w.drew /\ (af : Int) ≠ 0 /\ ∃ ag : Int, ag = IntKind.wrap .i64 (Int.tdiv ab af) /\ ∃ ah : Int, ah = (if 999999999 < ag then 999999999 else ag) /\ ∃ (ai : Int -> World -> Prop) (mu : Int -> World -> Nat), ai ah w.drew /\
 ∀ (aj : Fr) (ak : World) (q : Int), ai q ak ->
 ((decide ((0 : Int) < q)) = true ->
 ∃ al : Int, al = IntKind.wrap .i64 (((a4 : Nat) : Int) - 1) /\ (0 <= (al : Int) /\ (al : Int) < (a4 : Nat)) /\ ptrS a3 fun am => ∃ an, (∀ wv_3, Ext ak.drew wv_3 -> Loads P 3 (am.add (al.toNat * 1)) (.int .i64 an) wv_3) /\ ∃ ao : Int, ao = IntKind.wrap .i64 (q * an) /\ ∃ ap : Int, ap = IntKind.wrap .i64 (ab - ao) /\ ((decide ((ap : Int) < 1000000000)) = true ->
 ∃ aq : Int, aq = IntKind.wrap .i64 (((a4 : Nat) : Int) - 2) /\ (0 <= (aq : Int) /\ (aq : Int) < (a4 : Nat)) /\ ptrS a3 fun ar => ∃ au, (∀ wv_4, Ext ak.drew wv_4 -> Loads P 3 (ar.add (aq.toNat * 1)) (.int .i64 au) wv_4) /\ ∃ av : Int, av = IntKind.wrap .i64 (q * au) /\ ∃ aw : Int, aw = IntKind.wrap .i64 (((a4 : Nat) : Int) - 1) /\ (0 <= (aw : Int) /\ (aw : Int) < (a4 : Nat)) /\ ptrS a3 fun ax => ∃ ay, (∀ wv_5, Ext ak.drew wv_5 -> Loads P 3 (ax.add (aw.toNat * 1)) (.int .i64 ay) wv_5) /\ ∃ az : Int, az = IntKind.wrap .i64 (q * ay) /\ ∃ b0 : Int, b0 = IntKind.wrap .i64 (ab - az) /\ ∃ b1 : Int, b1 = IntKind.wrap .i64 (b0 * 1000000000) /\ ∃ b2 : Int, b2 = IntKind.wrap .i64 (((a4 : Nat) : Int) - 2) /\ (0 <= (b2 : Int) /\ (b2 : Int) < (a1 : Nat)) /\ ptrS a0 fun b3 => ∃ b4, (∀ wv_6, Ext ak.drew wv_6 -> Loads P 3 (b3.add (b2.toNat * 1)) (.int .i64 b4) wv_6) /\ ∃ b5 : Int, b5 = IntKind.wrap .i64 (b1 + b4) /\ ((decide ((b5 : Int) < av)) = true ->
 ∃ b6 : Int, b6 = IntKind.wrap .i64 (q - 1) /\ ai b6 ak.drew /\ mu b6 ak.drew < mu q ak) /\
 ((decide ((b5 : Int) < av)) = false ->
 Calls P 279 ⟨[.slice a0 a1 a2, .slice a3 a4 a5, .int .i64 q]⟩ ak.drew fun e b7 =>
 ∃ b8, e = .returned (.bool b8) /\
 (b8 = true ->
 ∃ b9 : Int, b9 = IntKind.wrap .i64 (q - 1) /\ Calls P 280 ⟨[.slice a0 a1 a2, .slice a3 a4 a5]⟩ b7 fun ba bb =>
 ba = .returned (.tuple #[]) /\
 impl_divStep_j0 b9 bb R) /\
 (b8 = false ->
 impl_divStep_j0 q b7 R))) /\
 ((decide ((ap : Int) < 1000000000)) = false ->
 (false = true ->
 ∃ bc : Int, bc = IntKind.wrap .i64 (q - 1) /\ ai bc ak.drew /\ mu bc ak.drew < mu q ak) /\
 (false = false ->
 Calls P 279 ⟨[.slice a0 a1 a2, .slice a3 a4 a5, .int .i64 q]⟩ ak.drew fun bd be =>
 ∃ bf, bd = .returned (.bool bf) /\
 (bf = true ->
 ∃ bg : Int, bg = IntKind.wrap .i64 (q - 1) /\ Calls P 280 ⟨[.slice a0 a1 a2, .slice a3 a4 a5]⟩ be fun bh bi =>
 bh = .returned (.tuple #[]) /\
 impl_divStep_j1 bg bi R) /\
 (bf = false ->
 impl_divStep_j1 q be R)))) /\
 ((decide ((0 : Int) < q)) = false ->
 (false = true ->
 ∃ bj : Int, bj = IntKind.wrap .i64 (((a4 : Nat) : Int) - 2) /\ (0 <= (bj : Int) /\ (bj : Int) < (a4 : Nat)) /\ ptrS a3 fun bk => ∃ bl, (∀ wv_11, Ext ak.drew wv_11 -> Loads P 3 (bk.add (bj.toNat * 1)) (.int .i64 bl) wv_11) /\ ∃ bm : Int, bm = IntKind.wrap .i64 (q * bl) /\ ∃ bn : Int, bn = IntKind.wrap .i64 (((a4 : Nat) : Int) - 1) /\ (0 <= (bn : Int) /\ (bn : Int) < (a4 : Nat)) /\ ptrS a3 fun bo => ∃ bp, (∀ wv_12, Ext ak.drew wv_12 -> Loads P 3 (bo.add (bn.toNat * 1)) (.int .i64 bp) wv_12) /\ ∃ bq : Int, bq = IntKind.wrap .i64 (q * bp) /\ ∃ br : Int, br = IntKind.wrap .i64 (ab - bq) /\ ∃ bs : Int, bs = IntKind.wrap .i64 (br * 1000000000) /\ ∃ bt : Int, bt = IntKind.wrap .i64 (((a4 : Nat) : Int) - 2) /\ (0 <= (bt : Int) /\ (bt : Int) < (a1 : Nat)) /\ ptrS a0 fun bu => ∃ bv, (∀ wv_13, Ext ak.drew wv_13 -> Loads P 3 (bu.add (bt.toNat * 1)) (.int .i64 bv) wv_13) /\ ∃ bw : Int, bw = IntKind.wrap .i64 (bs + bv) /\ ((decide ((bw : Int) < bm)) = true ->
 ∃ bx : Int, bx = IntKind.wrap .i64 (q - 1) /\ ai bx ak.drew /\ mu bx ak.drew < mu q ak) /\
 ((decide ((bw : Int) < bm)) = false ->
 Calls P 279 ⟨[.slice a0 a1 a2, .slice a3 a4 a5, .int .i64 q]⟩ ak.drew fun bz c0 =>
 ∃ c1, bz = .returned (.bool c1) /\
 (c1 = true ->
 ∃ c2 : Int, c2 = IntKind.wrap .i64 (q - 1) /\ Calls P 280 ⟨[.slice a0 a1 a2, .slice a3 a4 a5]⟩ c0 fun c3 c4 =>
 c3 = .returned (.tuple #[]) /\
 impl_divStep_j2 c2 c4 R) /\
 (c1 = false ->
 impl_divStep_j2 q c0 R))) /\
 (false = false ->
 (false = true ->
 ∃ c5 : Int, c5 = IntKind.wrap .i64 (q - 1) /\ ai c5 ak.drew /\ mu c5 ak.drew < mu q ak) /\
 (false = false ->
 Calls P 279 ⟨[.slice a0 a1 a2, .slice a3 a4 a5, .int .i64 q]⟩ ak.drew fun c6 c7 =>
 ∃ c8, c6 = .returned (.bool c8) /\
 (c8 = true ->
 ∃ c9 : Int, c9 = IntKind.wrap .i64 (q - 1) /\ Calls P 280 ⟨[.slice a0 a1 a2, .slice a3 a4 a5]⟩ c7 fun ca cb =>
 ca = .returned (.tuple #[]) /\
 impl_divStep_j3 c9 cb R) /\
 (c8 = false ->
 impl_divStep_j3 q c7 R))))
theorem impl_divStep_ret {u_p : Option Addr} {u_n : Nat} {u_c : Nat} {v_p : Option Addr} {v_n : Nat} {v_c : Nat} {w : World} {R : Value → World → Prop} (h : impl_divStep u_p u_n u_c v_p v_n v_c w R) : Ret P 238 [(.slice u_p u_n u_c), (.slice v_p v_n v_c)] w R :=
  Ret.of_fsem Tryz.func238 rfl (Eq.mp (show _ = fsem P Tryz.f238 (fun k => cond (Nat.beq k 5) [(7, .one (.int .i64))] ([])) _ R w from by kernel_rfl) h)
def spec_NatGcd_j0 (a0 : Option Addr) (a1 a2 : Nat) (a3 : Option Addr) (a4 a5 : Nat) (W : World) (R : Value -> World -> Prop) : Prop :=
 ∀ r a6, New W (.cells ⟨[]⟩ 3 (0, 0)) r a6 ->
 ∃ a7 a8 a9 aa, Appends P [22, 22] [(.slice (some ⟨r, 0, none⟩) 0 0), .slice a0 a1 a2] (.slice a7 a8 a9) a6 aa /\
 ∀ ab ac, New aa (.cells ⟨[]⟩ 3 (0, 0)) ab ac ->
 ∃ ae af ag ah, Appends P [22, 22] [(.slice (some ⟨ab, 0, none⟩) 0 0), .slice a3 a4 a5] (.slice ae af ag) ac ah /\
 ∃ (ai : Option Addr -> Nat -> Nat -> Option Addr -> Nat -> Nat -> World -> Prop) (mu : Option Addr -> Nat -> Nat -> Option Addr -> Nat -> Nat -> World -> Nat), ai a7 a8 a9 ae af ag ah /\
 ∀ (aj : Fr) (ak : World) (al : Option Addr) (am an : Nat) (ao : Option Addr) (ap aq : Nat), ai al am an ao ap aq ak ->
 ((decide ((0 : Int) < ((ap : Nat) : Int))) = true ->
 Calls P 224 ⟨[.slice al am an, .slice ao ap aq]⟩ ak fun ar au =>
 ∃ av aw ax ay az b0, ar = .returned (.tuple #[.slice av aw ax, .slice ay az b0]) /\
 ai ao ap aq ay az b0 au /\ mu ao ap aq ay az b0 au < mu al am an ao ap aq ak) /\
 ((decide ((0 : Int) < ((ap : Nat) : Int))) = false ->
 R (.slice al am an) ak)
def spec_NatGcd (a0 : Option Addr) (a1 a2 : Nat) (a3 : Option Addr) (a4 a5 : Nat) (w : World) (R : Value -> World -> Prop) : Prop :=
 Calls P 223 ⟨[.slice a0 a1 a2]⟩ w fun e wv =>
 ∃ a6, e = .returned (.bool a6) /\
 ((!a6) = true ->
 (true = true ->
 R (.slice none 0 0) wv) /\
 (true = false ->
 spec_NatGcd_j0 a0 a1 a2 a3 a4 a5 wv R)) /\
 ((!a6) = false ->
 Calls P 223 ⟨[.slice a3 a4 a5]⟩ wv fun a7 a8 =>
 ∃ a9, a7 = .returned (.bool a9) /\
 ((!a9) = true ->
 R (.slice none 0 0) a8) /\
 ((!a9) = false ->
 spec_NatGcd_j0 a0 a1 a2 a3 a4 a5 a8 R))
theorem spec_NatGcd_ret {a_p : Option Addr} {a_n : Nat} {a_c : Nat} {b_p : Option Addr} {b_n : Nat} {b_c : Nat} {w : World} {R : Value → World → Prop} (h : spec_NatGcd a_p a_n a_c b_p b_n b_c w R) : Ret P 242 [(.slice a_p a_n a_c), (.slice b_p b_n b_c)] w R :=
  Ret.of_fsem Tryz.func242 rfl (Eq.mp (show _ = fsem P Tryz.f242 (fun k => cond (Nat.beq k 6) [(5, .one .slice), (6, .one .slice)] ([])) _ R w from by kernel_rfl) h)
def spec_l02Trim (a0 : Option Addr) (a1 a2 : Nat) (w : World) (R : Value -> World -> Prop) : Prop :=
 ∃ (a3 : Int -> World -> Prop) (mu : Int -> World -> Nat), a3 ((a1 : Nat) : Int) w /\
 ∀ (a4 : Fr) (wv : World) (n : Int), a3 n wv ->
 ((decide ((0 : Int) < n)) = true ->
 ∃ a5 : Int, a5 = IntKind.wrap .i64 (n - 1) /\ (0 <= (a5 : Int) /\ (a5 : Int) < (a1 : Nat)) /\ ptrS a0 fun ad => ∃ a6, Loads P 3 (ad.add (a5.toNat * 1)) (.int .i64 a6) wv /\ ((decide ((a6 : Int) = 0)) = true ->
 ∃ a7 : Int, a7 = IntKind.wrap .i64 (n - 1) /\ a3 a7 wv /\ mu a7 wv < mu n wv) /\
 ((decide ((a6 : Int) = 0)) = false ->
 (0 <= (n : Int) /\ (n : Int) <= (a2 : Nat)) /\ R (.slice (sub a0 0 a2 1) (n.toNat - 0) (a2 - 0)) wv)) /\
 ((decide ((0 : Int) < n)) = false ->
 (false = true ->
 ∃ a8 : Int, a8 = IntKind.wrap .i64 (n - 1) /\ a3 a8 wv /\ mu a8 wv < mu n wv) /\
 (false = false ->
 (0 <= (n : Int) /\ (n : Int) <= (a2 : Nat)) /\ R (.slice (sub a0 0 a2 1) (n.toNat - 0) (a2 - 0)) wv))
theorem spec_l02Trim_ret {a_p : Option Addr} {a_n : Nat} {a_c : Nat} {w : World} {R : Value → World → Prop} (h : spec_l02Trim a_p a_n a_c w R) : Ret P 243 [(.slice a_p a_n a_c)] w R :=
  Ret.of_fsem Tryz.func243 rfl (Eq.mp (show _ = fsem P Tryz.f243 (fun k => cond (Nat.beq k 3) [(3, .one (.int .i64))] ([])) _ R w from by kernel_rfl) h)
def spec_l02Add_j2 (a0 : World) (a1 : Option Addr -> Nat -> Nat -> Int -> Int -> World -> Prop) (mu : Option Addr -> Nat -> Nat -> Int -> Int -> World -> Nat) (a2 : Option Addr) (a3 a4 : Nat) (carry i n_1 : Int) (a5 : World) (R : Value -> World -> Prop) : Prop :=
 (1000000000 : Int) ≠ 0 /\ ∃ a6 : Int, a6 = Int.tmod n_1 1000000000 /\ ∀ a7 a8, New a5 (.cells ⟨[.int .i64 a6]⟩ 3 (0, 0)) a7 a8 ->
 ∃ a9 aa ab ac, Appends P [22, 22] [.slice a2 a3 a4, (.slice (some ⟨a7, 0, none⟩) 1 1)] (.slice a9 aa ab) a8 ac /\
 (1000000000 : Int) ≠ 0 /\ ∃ ae : Int, ae = IntKind.wrap .i64 (Int.tdiv n_1 1000000000) /\ ∃ af : Int, af = IntKind.wrap .i64 (i + 1) /\ a1 a9 aa ab ae af ac /\ mu a9 aa ab ae af ac < mu a2 a3 a4 carry i a0
def spec_l02Add_j1 (a0 : Option Addr) (a1 : Nat) (a2 : World) (a3 : Option Addr -> Nat -> Nat -> Int -> Int -> World -> Prop) (mu : Option Addr -> Nat -> Nat -> Int -> Int -> World -> Nat) (a4 : Option Addr) (a5 a6 : Nat) (carry i n : Int) (a7 : World) (R : Value -> World -> Prop) : Prop :=
 ((decide ((i : Int) < ((a1 : Nat) : Int))) = true ->
 (0 <= (i : Int) /\ (i : Int) < (a1 : Nat)) /\ ptrS a0 fun a8 => ∃ a9, Loads P 3 (a8.add (i.toNat * 1)) (.int .i64 a9) a7 /\ ∃ aa : Int, aa = IntKind.wrap .i64 (n + a9) /\ spec_l02Add_j2 a2 a3 mu a4 a5 a6 carry i aa a7 R) /\
 ((decide ((i : Int) < ((a1 : Nat) : Int))) = false ->
 spec_l02Add_j2 a2 a3 mu a4 a5 a6 carry i n a7 R)
def spec_l02Add_j0 (a0 : Option Addr) (a1 : Nat) (a2 : Option Addr) (a3 : Nat) (a4 : World) (a5 : Option Addr -> Nat -> Nat -> Int -> Int -> World -> Prop) (mu : Option Addr -> Nat -> Nat -> Int -> Int -> World -> Nat) (a6 : Option Addr) (a7 a8 : Nat) (carry i : Int) (W : World) (R : Value -> World -> Prop) : Prop :=
 ((decide ((i : Int) < ((a1 : Nat) : Int))) = true ->
 (0 <= (i : Int) /\ (i : Int) < (a1 : Nat)) /\ ptrS a0 fun ad => ∃ a9, Loads P 3 (ad.add (i.toNat * 1)) (.int .i64 a9) W /\ ∃ aa : Int, aa = IntKind.wrap .i64 (carry + a9) /\ spec_l02Add_j1 a2 a3 a4 a5 mu a6 a7 a8 carry i aa W R) /\
 ((decide ((i : Int) < ((a1 : Nat) : Int))) = false ->
 spec_l02Add_j1 a2 a3 a4 a5 mu a6 a7 a8 carry i carry W R)
def spec_l02Add (a0 : Option Addr) (a1 a2 : Nat) (a3 : Option Addr) (a4 a5 : Nat) (w : World) (R : Value -> World -> Prop) : Prop :=
 ∀ r wv, New w (.cells ⟨[]⟩ 3 (0, 0)) r wv ->
 ∃ (a6 : Option Addr -> Nat -> Nat -> Int -> Int -> World -> Prop) (mu : Option Addr -> Nat -> Nat -> Int -> Int -> World -> Nat), a6 (some ⟨r, 0, none⟩) 0 0 0 0 wv /\
 ∀ (a7 : Fr) (a8 : World) (a9 : Option Addr) (aa ab : Nat) (carry i : Int), a6 a9 aa ab carry i a8 ->
 ((decide ((i : Int) < ((a1 : Nat) : Int))) = true ->
 (true = true ->
 (true = true ->
 spec_l02Add_j0 a0 a1 a3 a4 a8 a6 mu a9 aa ab carry i a8 R) /\
 (true = false ->
 R (.slice a9 aa ab) a8)) /\
 (true = false ->
 ((decide ((0 : Int) < carry)) = true ->
 spec_l02Add_j0 a0 a1 a3 a4 a8 a6 mu a9 aa ab carry i a8 R) /\
 ((decide ((0 : Int) < carry)) = false ->
 R (.slice a9 aa ab) a8))) /\
 ((decide ((i : Int) < ((a1 : Nat) : Int))) = false ->
 ((decide ((i : Int) < ((a4 : Nat) : Int))) = true ->
 (true = true ->
 spec_l02Add_j0 a0 a1 a3 a4 a8 a6 mu a9 aa ab carry i a8 R) /\
 (true = false ->
 R (.slice a9 aa ab) a8)) /\
 ((decide ((i : Int) < ((a4 : Nat) : Int))) = false ->
 ((decide ((0 : Int) < carry)) = true ->
 spec_l02Add_j0 a0 a1 a3 a4 a8 a6 mu a9 aa ab carry i a8 R) /\
 ((decide ((0 : Int) < carry)) = false ->
 R (.slice a9 aa ab) a8)))
theorem spec_l02Add_ret {a_p : Option Addr} {a_n : Nat} {a_c : Nat} {b_p : Option Addr} {b_n : Nat} {b_c : Nat} {w : World} {R : Value → World → Prop} (h : spec_l02Add a_p a_n a_c b_p b_n b_c w R) : Ret P 244 [(.slice a_p a_n a_c), (.slice b_p b_n b_c)] w R :=
  Ret.of_fsem Tryz.func244 rfl (Eq.mp (show _ = fsem P Tryz.f244 (fun k => cond (Nat.beq k 5) [(5, .one .slice), (6, .one (.int .i64)), (7, .one (.int .i64))] ([])) _ R w from by kernel_rfl) h)
def spec_l02Sub_j1 (a0 : World) (a1 : Option Addr -> Nat -> Nat -> Int -> Int -> World -> Prop) (mu : Option Addr -> Nat -> Nat -> Int -> Int -> World -> Nat) (a2 : Option Addr) (a3 a4 : Nat) (less a5 : Int) (less_1 n_1 : Int) (a6 : World) (R : Value -> World -> Prop) : Prop :=
 ∀ a7 a8, New a6 (.cells ⟨[.int .i64 n_1]⟩ 3 (0, 0)) a7 a8 ->
 ∃ a9 aa ab ac, Appends P [22, 22] [.slice a2 a3 a4, (.slice (some ⟨a7, 0, none⟩) 1 1)] (.slice a9 aa ab) a8 ac /\
 ∃ ae : Int, ae = IntKind.wrap .i64 (a5 + 1) /\ a1 a9 aa ab less_1 ae ac /\ mu a9 aa ab less_1 ae ac < mu a2 a3 a4 less a5 a0
def spec_l02Sub_j0 (a0 : World) (a1 : Option Addr -> Nat -> Nat -> Int -> Int -> World -> Prop) (mu : Option Addr -> Nat -> Nat -> Int -> Int -> World -> Nat) (a2 : Option Addr) (a3 a4 : Nat) (less a5 n : Int) (W : World) (R : Value -> World -> Prop) : Prop :=
 ((decide ((n : Int) < 0)) = true ->
 ∃ a6 : Int, a6 = IntKind.wrap .i64 (n + 1000000000) /\ spec_l02Sub_j1 a0 a1 mu a2 a3 a4 less a5 1 a6 W R) /\
 ((decide ((n : Int) < 0)) = false ->
 spec_l02Sub_j1 a0 a1 mu a2 a3 a4 less a5 0 n W R)
def spec_l02Sub (a0 : Option Addr) (a1 a2 : Nat) (a3 : Option Addr) (a4 a5 : Nat) (w : World) (R : Value -> World -> Prop) : Prop :=
 ∀ r wv, New w (.cells ⟨[]⟩ 3 (0, 0)) r wv ->
 ∃ (a6 : Option Addr -> Nat -> Nat -> Int -> Int -> World -> Prop) (mu : Option Addr -> Nat -> Nat -> Int -> Int -> World -> Nat), a6 (some ⟨r, 0, none⟩) 0 0 0 0 wv /\
 ∀ (a7 : Fr) (a8 : World) (a9 : Option Addr) (aa ab : Nat) (less ac : Int), a6 a9 aa ab less ac a8 ->
 ((decide ((ac : Int) < ((a1 : Nat) : Int))) = true ->
 (0 <= (ac : Int) /\ (ac : Int) < (a1 : Nat)) /\ ptrS a0 fun ad => ∃ ae, Loads P 3 (ad.add (ac.toNat * 1)) (.int .i64 ae) a8 /\ ∃ af : Int, af = IntKind.wrap .i64 (ae - less) /\ ((decide ((ac : Int) < ((a4 : Nat) : Int))) = true ->
 (0 <= (ac : Int) /\ (ac : Int) < (a4 : Nat)) /\ ptrS a3 fun ag => ∃ ah, Loads P 3 (ag.add (ac.toNat * 1)) (.int .i64 ah) a8 /\ ∃ ai : Int, ai = IntKind.wrap .i64 (af - ah) /\ spec_l02Sub_j0 a8 a6 mu a9 aa ab less ac ai a8 R) /\
 ((decide ((ac : Int) < ((a4 : Nat) : Int))) = false ->
 spec_l02Sub_j0 a8 a6 mu a9 aa ab less ac af a8 R)) /\
 ((decide ((ac : Int) < ((a1 : Nat) : Int))) = false ->
 Calls P 243 ⟨[.slice a9 aa ab]⟩ a8 fun e aj =>
 ∃ ak al am, e = .returned (.slice ak al am) /\
 R (.slice ak al am) aj)
theorem spec_l02Sub_ret {a_p : Option Addr} {a_n : Nat} {a_c : Nat} {b_p : Option Addr} {b_n : Nat} {b_c : Nat} {w : World} {R : Value → World → Prop} (h : spec_l02Sub a_p a_n a_c b_p b_n b_c w R) : Ret P 245 [(.slice a_p a_n a_c), (.slice b_p b_n b_c)] w R :=
  Ret.of_fsem Tryz.func245 rfl (Eq.mp (show _ = fsem P Tryz.f245 (fun k => cond (Nat.beq k 5) [(5, .one .slice), (6, .one (.int .i64)), (12, .one (.int .i64))] ([])) _ R w from by kernel_rfl) h)
def spec_l05Gcd (a0 : Option Addr) (a1 a2 : Nat) (a3 : Option Addr) (a4 a5 : Nat) (w : World) (R : Value -> World -> Prop) : Prop :=
 ∃ (a6 : Option Addr -> Nat -> Nat -> Option Addr -> Nat -> Nat -> World -> Prop) (mu : Option Addr -> Nat -> Nat -> Option Addr -> Nat -> Nat -> World -> Nat), a6 a0 a1 a2 a3 a4 a5 w /\
 ∀ (a7 : Fr) (wv : World) (a8 : Option Addr) (a9 aa : Nat) (ab : Option Addr) (ac ae : Nat), a6 a8 a9 aa ab ac ae wv ->
 ((decide ((0 : Int) < ((ac : Nat) : Int))) = true ->
 Calls P 224 ⟨[.slice a8 a9 aa, .slice ab ac ae]⟩ wv fun e af =>
 ∃ ag ah ai aj ak al, e = .returned (.tuple #[.slice ag ah ai, .slice aj ak al]) /\
 a6 ab ac ae aj ak al af /\ mu ab ac ae aj ak al af < mu a8 a9 aa ab ac ae wv) /\
 ((decide ((0 : Int) < ((ac : Nat) : Int))) = false ->
 R (.slice a8 a9 aa) wv)
theorem spec_l05Gcd_ret {a_p : Option Addr} {a_n : Nat} {a_c : Nat} {b_p : Option Addr} {b_n : Nat} {b_c : Nat} {w : World} {R : Value → World → Prop} (h : spec_l05Gcd a_p a_n a_c b_p b_n b_c w R) : Ret P 246 [(.slice a_p a_n a_c), (.slice b_p b_n b_c)] w R :=
  Ret.of_fsem Tryz.func246 rfl (Eq.mp (show _ = fsem P Tryz.f246 (fun k => cond (Nat.beq k 4) [(5, .one .slice), (6, .one .slice)] ([])) _ R w from by kernel_rfl) h)
def spec_l08Table (w : World) (R : Value -> World -> Prop) : Prop :=
 ∀ r wv, New w (.cells ⟨[(.string (S [65, 85, 68])), (.string (S [48, 51, 54])), .int .i64 2, .int .i64 5, (.string (S [66, 72, 68])), (.string (S [48, 52, 56])), .int .i64 3, .int .i64 5, (.string (S [67, 65, 68])), (.string (S [49, 50, 52])), .int .i64 2, .int .i64 5, (.string (S [67, 72, 70])), (.string (S [55, 53, 54])), .int .i64 2, .int .i64 5, (.string (S [67, 76, 70])), (.string (S [57, 57, 48])), .int .i64 4, .int .i64 1, (.string (S [67, 90, 75])), (.string (S [50, 48, 51])), .int .i64 2, .int .i64 100, (.string (S [68, 75, 75])), (.string (S [50, 48, 56])), .int .i64 2, .int .i64 50, (.string (S [69, 85, 82])), (.string (S [57, 55, 56])), .int .i64 2, .int .i64 1, (.string (S [71, 66, 80])), (.string (S [56, 50, 54])), .int .i64 2, .int .i64 1, (.string (S [72, 85, 70])), (.string (S [51, 52, 56])), .int .i64 2, .int .i64 500, (.string (S [73, 83, 75])), (.string (S [51, 53, 50])), .int .i64 0, .int .i64 1, (.string (S [74, 80, 89])), (.string (S [51, 57, 50])), .int .i64 0, .int .i64 1, (.string (S [75, 82, 87])), (.string (S [52, 49, 48])), .int .i64 0, .int .i64 10, (.string (S [75, 87, 68])), (.string (S [52, 49, 52])), .int .i64 3, .int .i64 5, (.string (S [78, 79, 75])), (.string (S [53, 55, 56])), .int .i64 2, .int .i64 100, (.string (S [78, 90, 68])), (.string (S [53, 53, 52])), .int .i64 2, .int .i64 10, (.string (S [80, 76, 78])), (.string (S [57, 56, 53])), .int .i64 2, .int .i64 1, (.string (S [83, 69, 75])), (.string (S [55, 53, 50])), .int .i64 2, .int .i64 100, (.string (S [84, 78, 68])), (.string (S [55, 56, 56])), .int .i64 3, .int .i64 10, (.string (S [85, 83, 68])), (.string (S [56, 52, 48])), .int .i64 2, .int .i64 1]⟩ 207 (0, 0)) r wv ->
 R (.slice (some ⟨r, 0, none⟩) 20 20) wv
theorem spec_l08Table_ret {w : World} {R : Value → World → Prop} (h : spec_l08Table w R) : Ret P 247 [] w R :=
  Ret.of_fsem Tryz.func247 rfl (Eq.mp (show _ = fsem P Tryz.f247 (fun k => []) _ R w from by kernel_rfl) h)
def spec_l07Ten (k : Int) (w : World) (R : Value -> World -> Prop) : Prop :=
 ∀ r wv, New w (.cells ⟨[.bool false, .slice none 0 0]⟩ 31 (0, 0)) r wv ->
 Calls P 284 ⟨[.int .i64 k]⟩ wv fun e a0 =>
 ∃ a1 a2 a3, e = .returned (.slice a1 a2 a3) /\
 ∃ wv_2, Stores P 31 ⟨r, 0, none⟩ (.agg #[.bool false, .slice a1 a2 a3]) a0 wv_2 /\
 ∃ r0 a4 a5 a6, Loads P 31 ⟨r, 0, none⟩ (.agg #[.bool r0, .slice a4 a5 a6]) wv_2 /\ R (.agg #[.bool r0, .slice a4 a5 a6]) wv_2
theorem spec_l07Ten_ret {k : Int} {w : World} {R : Value → World → Prop} (h : spec_l07Ten k w R) : Ret P 251 [(.int .i64 k)] w R :=
  Ret.of_fsem Tryz.func251 rfl (Eq.mp (show _ = fsem P Tryz.f251 (fun k => []) _ R w from by kernel_rfl) h)
def spec_NatCut (a0 : Option Addr) (a1 a2 : Nat) (k : Int) (w : World) (R : Value -> World -> Prop) : Prop :=
 Calls P 125 ⟨[.int .i64 k, .int .i64 0, .int .i64 440]⟩ w fun e wv =>
 ∃ t7, e = .returned (.bool t7) /\
 ((!t7) = true ->
 R (.tuple #[.slice none 0 0, .slice none 0 0]) wv) /\
 ((!t7) = false ->
 Calls P 284 ⟨[.int .i64 k]⟩ wv fun a3 a4 =>
 ∃ a5 a6 a7, a3 = .returned (.slice a5 a6 a7) /\
 Calls P 130 ⟨[.slice a0 a1 a2, .slice a5 a6 a7]⟩ a4 fun a8 a9 =>
 ∃ aa ab ac ae af ag, a8 = .returned (.tuple #[.slice aa ab ac, .slice ae af ag]) /\
 R (.tuple #[.slice aa ab ac, .slice ae af ag]) a9)
theorem spec_NatCut_ret {a_p : Option Addr} {a_n : Nat} {a_c : Nat} {k : Int} {w : World} {R : Value → World → Prop} (h : spec_NatCut a_p a_n a_c k w R) : Ret P 252 [(.slice a_p a_n a_c), (.int .i64 k)] w R :=
  Ret.of_fsem Tryz.func252 rfl (Eq.mp (show _ = fsem P Tryz.f252 (fun k => []) _ R w from by kernel_rfl) h)
def impl_decOf (num0 : Bool) (a0 : Option Addr) (a1 a2 : Nat) (scale : Int) (w : World) (R : Value -> World -> Prop) : Prop :=
 ∀ r wv, New w (.cells ⟨[.bool num0, .slice a0 a1 a2]⟩ 31 (0, 0)) r wv ->
 ∀ a3 a4, New wv (.cells ⟨[.bool false, .slice none 0 0, .int .i64 0]⟩ 63 (0, 0)) a3 a4 ->
 ∃ a5 a6 a7 a8, Loads P 31 ⟨r, 0, none⟩ (.agg #[.bool a5, .slice a6 a7 a8]) a4 /\ ∀ a9 aa, New a4 (.cells ⟨[.bool false, .slice none 0 0, .int .i64 0]⟩ 63 (0, 0)) a9 aa ->
 ∃ wv_3, Stores P 63 ⟨a9, 0, none⟩ (.agg #[.bool a5, .slice a6 a7 a8, .int .i64 scale]) aa wv_3 /\
 ∃ ab ac ae af ag, Loads P 63 ⟨a9, 0, none⟩ (.agg #[.bool ab, .slice ac ae af, .int .i64 ag]) wv_3 /\ Calls P 212 ⟨[.agg #[.bool ab, .slice ac ae af, .int .i64 ag]]⟩ wv_3 fun e ah =>
 ∃ ai, e = .returned (.bool ai) /\
 (ai = true ->
 ∃ aj ak al am an, Loads P 63 ⟨a9, 0, none⟩ (.agg #[.bool aj, .slice ak al am, .int .i64 an]) ah /\ ∃ wv_5, Stores P 63 ⟨a3, 0, none⟩ (.agg #[.bool aj, .slice ak al am, .int .i64 an]) ah wv_5 /\
 ∃ r0 ao ap aq r2, Loads P 63 ⟨a3, 0, none⟩ (.agg #[.bool r0, .slice ao ap aq, .int .i64 r2]) wv_5 /\ R (.tuple #[.agg #[.bool r0, .slice ao ap aq, .int .i64 r2], .bool true]) wv_5) /\
 (ai = false ->
 ∃ wv_6, Stores P 63 ⟨a3, 0, none⟩ (.agg #[.bool false, .slice none 0 0, .int .i64 0]) ah wv_6 /\
 ∃ r0_1 ar au av r2_1, Loads P 63 ⟨a3, 0, none⟩ (.agg #[.bool r0_1, .slice ar au av, .int .i64 r2_1]) wv_6 /\ R (.tuple #[.agg #[.bool r0_1, .slice ar au av, .int .i64 r2_1], .bool false]) wv_6)
theorem impl_decOf_ret {num0 : Bool} {num1_p : Option Addr} {num1_n : Nat} {num1_c : Nat} {scale : Int} {w : World} {R : Value → World → Prop} (h : impl_decOf num0 num1_p num1_n num1_c scale w R) : Ret P 257 [(.agg #[(.bool num0), (.slice num1_p num1_n num1_c)]), (.int .i64 scale)] w R :=
  Ret.of_fsem Tryz.func257 rfl (Eq.mp (show _ = fsem P Tryz.f257 (fun k => []) _ R w from by kernel_rfl) h)
def impl_intMul (x0 : Bool) (a0 : Option Addr) (a1 a2 : Nat) (y0 : Bool) (a3 : Option Addr) (a4 a5 : Nat) (w : World) (R : Value -> World -> Prop) : Prop :=
 ∀ r wv, New w (.cells ⟨[.bool x0, .slice a0 a1 a2]⟩ 31 (0, 0)) r wv ->
 ∀ a6 a7, New wv (.cells ⟨[.bool y0, .slice a3 a4 a5]⟩ 31 (0, 0)) a6 a7 ->
 ∀ a8 a9, New a7 (.cells ⟨[.bool false, .slice none 0 0]⟩ 31 (0, 0)) a8 a9 ->
 ∃ t6, (∀ wv_3, Ext a9.drew wv_3 -> Loads P 4 ((⟨r, 0, none⟩ : Addr).add 0) (.bool t6) wv_3) /\ ∃ t8, (∀ wv_4, Ext a9.drew wv_4 -> Loads P 4 ((⟨a6, 0, none⟩ : Addr).add 0) (.bool t8) wv_4) /\ ∃ aa ab ac, (∀ wv_5, Ext a9.drew wv_5 -> Loads P 22 ((⟨r, 0, none⟩ : Addr).add 1) (.slice aa ab ac) wv_5) /\ ∃ ae af ag, (∀ wv_6, Ext a9.drew wv_6 -> Loads P 22 ((⟨a6, 0, none⟩ : Addr).add 1) (.slice ae af ag) wv_6) /\ Calls P 165 ⟨[.slice aa ab ac, .slice ae af ag]⟩ a9.drew fun e ah =>
 ∃ ai aj ak, e = .returned (.slice ai aj ak) /\
 Ext a9.drew ah /\ Calls P 173 ⟨[(.bool (!(t6 == t8))), .slice ai aj ak]⟩ ah fun al am =>
 ∃ an ao ap aq, al = .returned (.agg #[.bool an, .slice ao ap aq]) /\
 ∃ wv_9, Stores P 31 ⟨a8, 0, none⟩ (.agg #[.bool an, .slice ao ap aq]) am wv_9 /\
 ∃ r0 ar au av, Loads P 31 ⟨a8, 0, none⟩ (.agg #[.bool r0, .slice ar au av]) wv_9 /\ R (.agg #[.bool r0, .slice ar au av]) wv_9
theorem impl_intMul_ret {x0 : Bool} {x1_p : Option Addr} {x1_n : Nat} {x1_c : Nat} {y0 : Bool} {y1_p : Option Addr} {y1_n : Nat} {y1_c : Nat} {w : World} {R : Value → World → Prop} (h : impl_intMul x0 x1_p x1_n x1_c y0 y1_p y1_n y1_c w R) : Ret P 258 [(.agg #[(.bool x0), (.slice x1_p x1_n x1_c)]), (.agg #[(.bool y0), (.slice y1_p y1_n y1_c)])] w R :=
  Ret.of_fsem Tryz.func258 rfl (Eq.mp (show _ = fsem P Tryz.f258 (fun k => []) _ R w from by kernel_rfl) h)
def spec_RatInt (x0 : Bool) (a0 : Option Addr) (a1 a2 : Nat) (w : World) (R : Value -> World -> Prop) : Prop :=
 ∀ r wv, New w (.cells ⟨[.bool x0, .slice a0 a1 a2]⟩ 31 (0, 0)) r wv ->
 ∀ a3 a4, New wv (.cells ⟨[.bool false, .slice none 0 0, .slice none 0 0]⟩ 53 (0, 0)) a3 a4 ->
 ∃ a5 a6 a7 a8, (∀ wv_2, Ext a4.drew wv_2 -> Loads P 31 ⟨r, 0, none⟩ (.agg #[.bool a5, .slice a6 a7 a8]) wv_2) /\ Calls P 128 ⟨[.int .i64 1]⟩ a4.drew fun e a9 =>
 ∃ aa ab ac ae, e = .returned (.agg #[.bool aa, .slice ab ac ae]) /\
 Ext a4.drew a9 /\ Calls P 265 ⟨[.agg #[.bool a5, .slice a6 a7 a8], .agg #[.bool aa, .slice ab ac ae]]⟩ a9 fun af ag =>
 ∃ ah ai aj ak al am an t6, af = .returned (.tuple #[.agg #[.bool ah, .slice ai aj ak, .slice al am an], .bool t6]) /\
 ∃ wv_5, Stores P 53 ⟨a3, 0, none⟩ (.agg #[.bool ah, .slice ai aj ak, .slice al am an]) ag wv_5 /\
 ∃ r0 ao ap aq ar au av, Loads P 53 ⟨a3, 0, none⟩ (.agg #[.bool r0, .slice ao ap aq, .slice ar au av]) wv_5 /\ R (.tuple #[.agg #[.bool r0, .slice ao ap aq, .slice ar au av], .bool t6]) wv_5
theorem spec_RatInt_ret {x0 : Bool} {x1_p : Option Addr} {x1_n : Nat} {x1_c : Nat} {w : World} {R : Value → World → Prop} (h : spec_RatInt x0 x1_p x1_n x1_c w R) : Ret P 264 [(.agg #[(.bool x0), (.slice x1_p x1_n x1_c)])] w R :=
  Ret.of_fsem Tryz.func264 rfl (Eq.mp (show _ = fsem P Tryz.f264 (fun k => []) _ R w from by kernel_rfl) h)
def spec_RatMake_j0 (r a0 a1 : Nat) (W : World) (R : Value -> World -> Prop) : Prop :=
 ∃ a2, Loads P 4 ((⟨r, 0, none⟩ : Addr).add 0) (.bool a2) W /\ ∃ a3, Loads P 4 ((⟨a0, 0, none⟩ : Addr).add 0) (.bool a3) W /\ ∃ a4 a5 a6, Loads P 22 ((⟨r, 0, none⟩ : Addr).add 1) (.slice a4 a5 a6) W /\ ∃ a7 a8 a9, Loads P 22 ((⟨a0, 0, none⟩ : Addr).add 1) (.slice a7 a8 a9) W /\ Calls P 177 ⟨[(.bool (!(a2 == a3))), .slice a4 a5 a6, .slice a7 a8 a9]⟩ W fun aa ab =>
 ∃ ac ae af ag ah ai aj ak, aa = .returned (.tuple #[.agg #[.bool ac, .slice ae af ag, .slice ah ai aj], .bool ak]) /\
 ∃ wv_6, Stores P 53 ⟨a1, 0, none⟩ (.agg #[.bool ac, .slice ae af ag, .slice ah ai aj]) ab wv_6 /\
 ∃ r0_1 al am an ao ap aq, Loads P 53 ⟨a1, 0, none⟩ (.agg #[.bool r0_1, .slice al am an, .slice ao ap aq]) wv_6 /\ R (.tuple #[.agg #[.bool r0_1, .slice al am an, .slice ao ap aq], .bool ak]) wv_6
def spec_RatMake (num0 : Bool) (a0 : Option Addr) (a1 a2 : Nat) (den0 : Bool) (a3 : Option Addr) (a4 a5 : Nat) (w : World) (R : Value -> World -> Prop) : Prop :=
 ∀ r wv, New w (.cells ⟨[.bool num0, .slice a0 a1 a2]⟩ 31 (0, 0)) r wv ->
 ∀ a6 a7, New wv (.cells ⟨[.bool den0, .slice a3 a4 a5]⟩ 31 (0, 0)) a6 a7 ->
 ∀ a8 a9, New a7 (.cells ⟨[.bool false, .slice none 0 0, .slice none 0 0]⟩ 53 (0, 0)) a8 a9 ->
 ∃ aa ab ac ae, Loads P 31 ⟨r, 0, none⟩ (.agg #[.bool aa, .slice ab ac ae]) a9 /\ Calls P 151 ⟨[.agg #[.bool aa, .slice ab ac ae]]⟩ a9 fun e af =>
 ∃ t7, e = .returned (.bool t7) /\
 ((!t7) = true ->
 (true = true ->
 ∃ wv_4, Stores P 53 ⟨a8, 0, none⟩ (.agg #[.bool false, .slice none 0 0, .slice none 0 0]) af wv_4 /\
 ∃ r0 ag ah ai aj ak al, Loads P 53 ⟨a8, 0, none⟩ (.agg #[.bool r0, .slice ag ah ai, .slice aj ak al]) wv_4 /\ R (.tuple #[.agg #[.bool r0, .slice ag ah ai, .slice aj ak al], .bool false]) wv_4) /\
 (true = false ->
 spec_RatMake_j0 r a6 a8 af R)) /\
 ((!t7) = false ->
 ∃ am an ao ap, Loads P 31 ⟨a6, 0, none⟩ (.agg #[.bool am, .slice an ao ap]) af /\ Calls P 151 ⟨[.agg #[.bool am, .slice an ao ap]]⟩ af fun aq ar =>
 ∃ au, aq = .returned (.bool au) /\
 ((!au) = true ->
 ∃ wv_8, Stores P 53 ⟨a8, 0, none⟩ (.agg #[.bool false, .slice none 0 0, .slice none 0 0]) ar wv_8 /\
 ∃ r0_2 av aw ax ay az b0, Loads P 53 ⟨a8, 0, none⟩ (.agg #[.bool r0_2, .slice av aw ax, .slice ay az b0]) wv_8 /\ R (.tuple #[.agg #[.bool r0_2, .slice av aw ax, .slice ay az b0], .bool false]) wv_8) /\
 ((!au) = false ->
 spec_RatMake_j0 r a6 a8 ar R))
theorem spec_RatMake_ret {num0 : Bool} {num1_p : Option Addr} {num1_n : Nat} {num1_c : Nat} {den0 : Bool} {den1_p : Option Addr} {den1_n : Nat} {den1_c : Nat} {w : World} {R : Value → World → Prop} (h : spec_RatMake num0 num1_p num1_n num1_c den0 den1_p den1_n den1_c w R) : Ret P 265 [(.agg #[(.bool num0), (.slice num1_p num1_n num1_c)]), (.agg #[(.bool den0), (.slice den1_p den1_n den1_c)])] w R :=
  Ret.of_fsem Tryz.func265 rfl (Eq.mp (show _ = fsem P Tryz.f265 (fun k => []) _ R w from by kernel_rfl) h)
def impl_isScale (scale : Int) (w : World) (R : Value -> World -> Prop) : Prop :=
 ((decide ((0 : Int) <= scale)) = true ->
 R (.bool (decide ((scale : Int) <= 30))) w) /\
 ((decide ((0 : Int) <= scale)) = false ->
 R (.bool false) w)
theorem impl_isScale_ret {scale : Int} {w : World} {R : Value → World → Prop} (h : impl_isScale scale w R) : Ret P 266 [(.int .i64 scale)] w R :=
  Ret.of_fsem Tryz.func266 rfl (Eq.mp (show _ = fsem P Tryz.f266 (fun k => []) _ R w from by kernel_rfl) h)
def impl_scaled_1 (d0 : Bool) (a0 : Option Addr) (a1 a2 : Nat) (d2 : Int) (cap0 : Option Addr) (w : World) (R : Value -> World -> Prop) : Prop :=
 ∀ r wv, New w (.cells ⟨[.bool d0, .slice a0 a1 a2, .int .i64 d2]⟩ 63 (0, 0)) r wv ->
 ∀ a3 a4, New wv (.cells ⟨[.bool false, .slice none 0 0]⟩ 31 (0, 0)) a3 a4 ->
 ∃ t6, (∀ wv_2, Ext a4.drew wv_2 -> Loads P 4 (((⟨r, 0, none⟩ : Addr).add 0).add 0) (.bool t6) wv_2) /\ ∃ a5 a6 a7, (∀ wv_3, Ext a4.drew wv_3 -> Loads P 22 (((⟨r, 0, none⟩ : Addr).add 0).add 1) (.slice a5 a6 a7) wv_3) /\ ptrS cap0 fun ad => ∃ a8, (∀ wv_4, Ext a4.drew wv_4 -> Loads P 3 ad (.int .i64 a8) wv_4) /\ ∃ a9, (∀ wv_5, Ext a4.drew wv_5 -> Loads P 3 ((⟨r, 0, none⟩ : Addr).add 2) (.int .i64 a9) wv_5) /\ ∃ aa : Int, aa = IntKind.wrap .i64 (a8 - a9) /\ Calls P 268 ⟨[.int .i64 aa]⟩ a4.drew fun e ab =>
 ∃ ac ae af, e = .returned (.slice ac ae af) /\
 Ext a4.drew ab /\ Calls P 165 ⟨[.slice a5 a6 a7, .slice ac ae af]⟩ ab fun ag ah =>
 ∃ ai aj ak, ag = .returned (.slice ai aj ak) /\
 Ext ab ah /\ Calls P 173 ⟨[.bool t6, .slice ai aj ak]⟩ ah fun al am =>
 ∃ an ao ap aq, al = .returned (.agg #[.bool an, .slice ao ap aq]) /\
 ∃ wv_9, Stores P 31 ⟨a3, 0, none⟩ (.agg #[.bool an, .slice ao ap aq]) am wv_9 /\
 ∃ r0 ar au av, Loads P 31 ⟨a3, 0, none⟩ (.agg #[.bool r0, .slice ar au av]) wv_9 /\ R (.agg #[.bool r0, .slice ar au av]) wv_9
theorem impl_scaled_1_ret {d0 : Bool} {d1_p : Option Addr} {d1_n : Nat} {d1_c : Nat} {d2 : Int} {cap0 : Option Addr} {w : World} {R : Value → World → Prop} (h : impl_scaled_1 d0 d1_p d1_n d1_c d2 cap0 w R) : Ret P 267 [(.agg #[(.bool d0), (.slice d1_p d1_n d1_c), (.int .i64 d2)]), (.pointer cap0)] w R :=
  Ret.of_fsem Tryz.func267 rfl (Eq.mp (show _ = fsem P Tryz.f267 (fun k => []) _ R w from by kernel_rfl) h)
def impl_natTen (k : Int) (w : World) (R : Value -> World -> Prop) : Prop :=
 (9 : Int) ≠ 0 /\ ∃ t6 : Int, t6 = IntKind.wrap .i64 (Int.tdiv k 9) /\ (9 : Int) ≠ 0 /\ ∃ t8 : Int, t8 = IntKind.wrap .i64 (Int.tdiv k 9) /\ ∃ t9 : Int, t9 = IntKind.wrap .i64 (t8 + 1) /\ (0 <= (t6 : Int) /\ (t6 : Int) <= t9 /\ ((8 : Nat) : Int) * t9 <= 281474976710656) /\
 ∀ r wv, New w (.cells ⟨zeroRow (.int .i64 0) (t9.toNat * 1)⟩ 3 (0, 0)) r wv ->
 (9 : Int) ≠ 0 /\ ∃ a0 : Int, a0 = Int.tmod k 9 /\ ∃ (a1 : Int -> Int -> World -> Prop) (mu : Int -> Int -> World -> Nat), a1 1 0 wv /\
 ∀ (a2 : Fr) (a3 : World) (top a4 : Int), a1 top a4 a3 ->
 ((decide ((a4 : Int) < a0)) = true ->
 ∃ a5 : Int, a5 = IntKind.wrap .i64 (top * 10) /\ ∃ a6 : Int, a6 = IntKind.wrap .i64 (a4 + 1) /\ a1 a5 a6 a3 /\ mu a5 a6 a3 < mu top a4 a3) /\
 ((decide ((a4 : Int) < a0)) = false ->
 ∀ a7 a8, New a3 (.cells ⟨[.int .i64 top]⟩ 3 (0, 0)) a7 a8 ->
 ∃ a9 aa ab ac, Appends P [22, 22] [(.slice (some ⟨r, 0, none⟩) t6.toNat t9.toNat), (.slice (some ⟨a7, 0, none⟩) 1 1)] (.slice a9 aa ab) a8 ac /\
 R (.slice a9 aa ab) ac)
theorem impl_natTen_ret {k : Int} {w : World} {R : Value → World → Prop} (h : impl_natTen k w R) : Ret P 268 [(.int .i64 k)] w R :=
  Ret.of_fsem Tryz.func268 rfl (Eq.mp (show _ = fsem P Tryz.f268 (fun k => cond (Nat.beq k 5) [(4, .one (.int .i64)), (13, .one (.int .i64))] ([])) _ R w from by kernel_rfl) h)
def impl_RatRest (r0 : Bool) (a0 : Option Addr) (a1 a2 : Nat) (a3 : Option Addr) (a4 a5 : Nat) (m : Int) (w : World) (R : Value -> World -> Prop) : Prop :=
 ∀ r wv, New w (.cells ⟨[.bool r0, .slice a0 a1 a2, .slice a3 a4 a5]⟩ 53 (0, 0)) r wv ->
 ∀ a6 a7, New wv (.cells ⟨[.bool false, .slice none 0 0]⟩ 31 (0, 0)) a6 a7 ->
 ∀ a8 a9, New a7 (.cells ⟨[.bool false, .slice none 0 0, .slice none 0 0]⟩ 53 (0, 0)) a8 a9 ->
 ∃ aa ab ac ae af ag ah, Loads P 53 ⟨r, 0, none⟩ (.agg #[.bool aa, .slice ab ac ae, .slice af ag ah]) a9 /\ Calls P 299 ⟨[.agg #[.bool aa, .slice ab ac ae, .slice af ag ah], .int .i64 m]⟩ a9 fun e ai =>
 ∃ aj ak al am an, e = .returned (.tuple #[.agg #[.bool aj, .slice ak al am], .bool an]) /\
 ∀ ao ap, New ai (.cells ⟨[.bool false, .slice none 0 0]⟩ 31 (0, 0)) ao ap ->
 ∃ wv_5, Stores P 31 ⟨ao, 0, none⟩ (.agg #[.bool aj, .slice ak al am]) ap wv_5 /\
 ((!an) = true ->
 ∃ wv_6, Stores P 31 ⟨a6, 0, none⟩ (.agg #[.bool false, .slice none 0 0]) wv_5 wv_6 /\
 ∃ wv_7, Stores P 53 ⟨a8, 0, none⟩ (.agg #[.bool false, .slice none 0 0, .slice none 0 0]) wv_6 wv_7 /\
 ∃ r0_1 aq ar au, Loads P 31 ⟨a6, 0, none⟩ (.agg #[.bool r0_1, .slice aq ar au]) wv_7 /\ ∃ r0_2 av aw ax ay az b0, Loads P 53 ⟨a8, 0, none⟩ (.agg #[.bool r0_2, .slice av aw ax, .slice ay az b0]) wv_7 /\ R (.tuple #[.agg #[.bool r0_1, .slice aq ar au], .agg #[.bool r0_2, .slice av aw ax, .slice ay az b0], .bool false]) wv_7) /\
 ((!an) = false ->
 ∃ b1 b2 b3 b4, Loads P 31 ⟨ao, 0, none⟩ (.agg #[.bool b1, .slice b2 b3 b4]) wv_5 /\ Calls P 300 ⟨[.agg #[.bool b1, .slice b2 b3 b4]]⟩ wv_5 fun b5 b6 =>
 ∃ b7 b8 b9 ba bb bc bd be, b5 = .returned (.tuple #[.agg #[.bool b7, .slice b8 b9 ba, .slice bb bc bd], .bool be]) /\
 ∀ bf bg, New b6 (.cells ⟨[.bool false, .slice none 0 0, .slice none 0 0]⟩ 53 (0, 0)) bf bg ->
 ∃ wv_10, Stores P 53 ⟨bf, 0, none⟩ (.agg #[.bool b7, .slice b8 b9 ba, .slice bb bc bd]) bg wv_10 /\
 ∃ bh bi bj bk bl bm bn, Loads P 53 ⟨r, 0, none⟩ (.agg #[.bool bh, .slice bi bj bk, .slice bl bm bn]) wv_10 /\ ∃ bo bp bq br bs bt bu, Loads P 53 ⟨bf, 0, none⟩ (.agg #[.bool bo, .slice bp bq br, .slice bs bt bu]) wv_10 /\ Calls P 301 ⟨[.agg #[.bool bh, .slice bi bj bk, .slice bl bm bn], .agg #[.bool bo, .slice bp bq br, .slice bs bt bu]]⟩ wv_10 fun bv bw =>
 ∃ bx bz c0 c1 c2 c3 c4 c5, bv = .returned (.tuple #[.agg #[.bool bx, .slice bz c0 c1, .slice c2 c3 c4], .bool c5]) /\
 ∀ c6 c7, New bw (.cells ⟨[.bool false, .slice none 0 0, .slice none 0 0]⟩ 53 (0, 0)) c6 c7 ->
 ∃ wv_13, Stores P 53 ⟨c6, 0, none⟩ (.agg #[.bool bx, .slice bz c0 c1, .slice c2 c3 c4]) c7 wv_13 /\
 ((!be) = true ->
 (true = true ->
 ∃ wv_14, Stores P 31 ⟨a6, 0, none⟩ (.agg #[.bool false, .slice none 0 0]) wv_13 wv_14 /\
 ∃ wv_15, Stores P 53 ⟨a8, 0, none⟩ (.agg #[.bool false, .slice none 0 0, .slice none 0 0]) wv_14 wv_15 /\
 ∃ r0_3 c8 c9 ca, Loads P 31 ⟨a6, 0, none⟩ (.agg #[.bool r0_3, .slice c8 c9 ca]) wv_15 /\ ∃ r0_4 cb cc cd ce cf cg, Loads P 53 ⟨a8, 0, none⟩ (.agg #[.bool r0_4, .slice cb cc cd, .slice ce cf cg]) wv_15 /\ R (.tuple #[.agg #[.bool r0_3, .slice c8 c9 ca], .agg #[.bool r0_4, .slice cb cc cd, .slice ce cf cg], .bool false]) wv_15) /\
 (true = false ->
 ∃ blks : List Nat, ∃ ch ci cj ck, (∀ wv_16, EX blks wv_13.drew wv_16 -> Loads P 31 ⟨ao, 0, none⟩ (.agg #[.bool ch, .slice ci cj ck]) wv_16) /\ ∃ cl cm cn co cp cq cr, (∀ wv_17, EX blks wv_13.drew wv_17 -> Loads P 53 ⟨c6, 0, none⟩ (.agg #[.bool cl, .slice cm cn co, .slice cp cq cr]) wv_17) /\ ∃ wv_18, Stores P 31 ⟨a6, 0, none⟩ (.agg #[.bool ch, .slice ci cj ck]) wv_13.drew wv_18 /\
 EX blks wv_13.drew wv_18 /\ ∃ wv_19, Stores P 53 ⟨a8, 0, none⟩ (.agg #[.bool cl, .slice cm cn co, .slice cp cq cr]) wv_18 wv_19 /\
 ∃ r0_5 cs ct cu, Loads P 31 ⟨a6, 0, none⟩ (.agg #[.bool r0_5, .slice cs ct cu]) wv_19 /\ ∃ r0_6 cv cw cx cy cz d0, Loads P 53 ⟨a8, 0, none⟩ (.agg #[.bool r0_6, .slice cv cw cx, .slice cy cz d0]) wv_19 /\ R (.tuple #[.agg #[.bool r0_5, .slice cs ct cu], .agg #[.bool r0_6, .slice cv cw cx, .slice cy cz d0], .bool true]) wv_19)) /\
 ((!be) = false ->
 ((!c5) = true ->
 ∃ wv_20, Stores P 31 ⟨a6, 0, none⟩ (.agg #[.bool false, .slice none 0 0]) wv_13 wv_20 /\
 ∃ wv_21, Stores P 53 ⟨a8, 0, none⟩ (.agg #[.bool false, .slice none 0 0, .slice none 0 0]) wv_20 wv_21 /\
 ∃ r0_7 d1 d2 d3, Loads P 31 ⟨a6, 0, none⟩ (.agg #[.bool r0_7, .slice d1 d2 d3]) wv_21 /\ ∃ r0_8 d4 d5 d6 d7 d8 d9, Loads P 53 ⟨a8, 0, none⟩ (.agg #[.bool r0_8, .slice d4 d5 d6, .slice d7 d8 d9]) wv_21 /\ R (.tuple #[.agg #[.bool r0_7, .slice d1 d2 d3], .agg #[.bool r0_8, .slice d4 d5 d6, .slice d7 d8 d9], .bool false]) wv_21) /\
 ((!c5) = false ->
 ∃ blks_1 : List Nat, ∃ da db dc dd, (∀ wv_22, EX blks_1 wv_13.drew wv_22 -> Loads P 31 ⟨ao, 0, none⟩ (.agg #[.bool da, .slice db dc dd]) wv_22) /\ ∃ de df dg dh di dj dk, (∀ wv_23, EX blks_1 wv_13.drew wv_23 -> Loads P 53 ⟨c6, 0, none⟩ (.agg #[.bool de, .slice df dg dh, .slice di dj dk]) wv_23) /\ ∃ wv_24, Stores P 31 ⟨a6, 0, none⟩ (.agg #[.bool da, .slice db dc dd]) wv_13.drew wv_24 /\
 EX blks_1 wv_13.drew wv_24 /\ ∃ wv_25, Stores P 53 ⟨a8, 0, none⟩ (.agg #[.bool de, .slice df dg dh, .slice di dj dk]) wv_24 wv_25 /\
 ∃ r0_9 dl dm dn, Loads P 31 ⟨a6, 0, none⟩ (.agg #[.bool r0_9, .slice dl dm dn]) wv_25 /\ ∃ r0_10 dp dq dr ds dt du, Loads P 53 ⟨a8, 0, none⟩ (.agg #[.bool r0_10, .slice dp dq dr, .slice ds dt du]) wv_25 /\ R (.tuple #[.agg #[.bool r0_9, .slice dl dm dn], .agg #[.bool r0_10, .slice dp dq dr, .slice ds dt du], .bool true]) wv_25)))
theorem impl_RatRest_ret {r0 : Bool} {r1_p : Option Addr} {r1_n : Nat} {r1_c : Nat} {r2_p : Option Addr} {r2_n : Nat} {r2_c : Nat} {m : Int} {w : World} {R : Value → World → Prop} (h : impl_RatRest r0 r1_p r1_n r1_c r2_p r2_n r2_c m w R) : Ret P 271 [(.agg #[(.bool r0), (.slice r1_p r1_n r1_c), (.slice r2_p r2_n r2_c)]), (.int .i64 m)] w R :=
  Ret.of_fsem Tryz.func271 rfl (Eq.mp (show _ = fsem P Tryz.f271 (fun k => []) _ R w from by kernel_rfl) h)
def impl_moneyOf (cur : ByteArray) (units0 : Bool) (a0 : Option Addr) (a1 a2 : Nat) (w : World) (R : Value -> World -> Prop) : Prop :=
 ∀ r wv, New w (.cells ⟨[.bool units0, .slice a0 a1 a2]⟩ 31 (0, 0)) r wv ->
 ∀ a3 a4, New wv (.cells ⟨[.string ByteArray.empty, .bool false, .slice none 0 0]⟩ 33 (0, 0)) a3 a4 ->
 ∃ a5 a6 a7 a8, Loads P 31 ⟨r, 0, none⟩ (.agg #[.bool a5, .slice a6 a7 a8]) a4 /\ ∀ a9 aa, New a4 (.cells ⟨[.string ByteArray.empty, .bool false, .slice none 0 0]⟩ 33 (0, 0)) a9 aa ->
 ∃ wv_3, Stores P 33 ⟨a9, 0, none⟩ (.agg #[.string cur, .bool a5, .slice a6 a7 a8]) aa wv_3 /\
 ∃ ab ac ae af ag, Loads P 33 ⟨a9, 0, none⟩ (.agg #[.string ab, .bool ac, .slice ae af ag]) wv_3 /\ Calls P 69 ⟨[.agg #[.string ab, .bool ac, .slice ae af ag]]⟩ wv_3 fun e ah =>
 ∃ ai, e = .returned (.bool ai) /\
 (ai = true ->
 ∃ aj ak al am an, Loads P 33 ⟨a9, 0, none⟩ (.agg #[.string aj, .bool ak, .slice al am an]) ah /\ ∃ wv_5, Stores P 33 ⟨a3, 0, none⟩ (.agg #[.string aj, .bool ak, .slice al am an]) ah wv_5 /\
 ∃ r0 r1 ao ap aq, Loads P 33 ⟨a3, 0, none⟩ (.agg #[.string r0, .bool r1, .slice ao ap aq]) wv_5 /\ R (.tuple #[.agg #[.string r0, .bool r1, .slice ao ap aq], .bool true]) wv_5) /\
 (ai = false ->
 ∃ wv_6, Stores P 33 ⟨a3, 0, none⟩ (.agg #[.string ByteArray.empty, .bool false, .slice none 0 0]) ah wv_6 /\
 ∃ r0_1 r1_1 ar au av, Loads P 33 ⟨a3, 0, none⟩ (.agg #[.string r0_1, .bool r1_1, .slice ar au av]) wv_6 /\ R (.tuple #[.agg #[.string r0_1, .bool r1_1, .slice ar au av], .bool false]) wv_6)
theorem impl_moneyOf_ret {cur : ByteArray} {units0 : Bool} {units1_p : Option Addr} {units1_n : Nat} {units1_c : Nat} {w : World} {R : Value → World → Prop} (h : impl_moneyOf cur units0 units1_p units1_n units1_c w R) : Ret P 272 [(.string cur), (.agg #[(.bool units0), (.slice units1_p units1_n units1_c)])] w R :=
  Ret.of_fsem Tryz.func272 rfl (Eq.mp (show _ = fsem P Tryz.f272 (fun k => []) _ R w from by kernel_rfl) h)
def spec_l03Small (a0 : Option Addr) (a1 a2 : Nat) (d : Int) (w : World) (R : Value -> World -> Prop) : Prop :=
 (0 <= (((a1 : Nat) : Int) : Int) /\ (((a1 : Nat) : Int) : Int) <= ((a1 : Nat) : Int) /\ ((8 : Nat) : Int) * ((a1 : Nat) : Int) <= 281474976710656) /\
 ∀ r wv, New w (.cells ⟨zeroRow (.int .i64 0) (a1 * 1)⟩ 3 (0, 0)) r wv ->
 ∃ a3 : Int, a3 = IntKind.wrap .i64 (((a1 : Nat) : Int) - 1) /\ ∃ (a4 : Int -> Int -> World -> Prop) (mu : Int -> Int -> World -> Nat), a4 0 a3 wv /\
 ∀ (a5 : Fr) (a6 : World) (rest i : Int), a4 rest i a6 ->
 ((decide ((0 : Int) <= i)) = true ->
 ∃ a7 : Int, a7 = IntKind.wrap .i64 (rest * 1000000000) /\ (0 <= (i : Int) /\ (i : Int) < (a1 : Nat)) /\ ptrS a0 fun ad => ∃ a8, Loads P 3 (ad.add (i.toNat * 1)) (.int .i64 a8) a6 /\ ∃ a9 : Int, a9 = IntKind.wrap .i64 (a7 + a8) /\ (d : Int) ≠ 0 /\ ∃ aa : Int, aa = IntKind.wrap .i64 (Int.tdiv a9 d) /\ (0 <= (i : Int) /\ (i : Int) < (a1 : Nat)) /\ ∃ wv_2, Stores P 3 ((⟨r, 0, none⟩ : Addr).add (i.toNat * 1)) (.int .i64 aa) a6 wv_2 /\
 (d : Int) ≠ 0 /\ ∃ ab : Int, ab = Int.tmod a9 d /\ ∃ ac : Int, ac = IntKind.wrap .i64 (i - 1) /\ a4 ab ac wv_2 /\ mu ab ac wv_2 < mu rest i a6) /\
 ((decide ((0 : Int) <= i)) = false ->
 Calls P 243 ⟨[(.slice (some ⟨r, 0, none⟩) a1 a1)]⟩ a6 fun e ae =>
 ∃ af ag ah, e = .returned (.slice af ag ah) /\
 R (.tuple #[.slice af ag ah, .int .i64 rest]) ae)
theorem spec_l03Small_ret {a_p : Option Addr} {a_n : Nat} {a_c : Nat} {d : Int} {w : World} {R : Value → World → Prop} (h : spec_l03Small a_p a_n a_c d w R) : Ret P 273 [(.slice a_p a_n a_c), (.int .i64 d)] w R :=
  Ret.of_fsem Tryz.func273 rfl (Eq.mp (show _ = fsem P Tryz.f273 (fun k => cond (Nat.beq k 5) [(7, .one (.int .i64)), (8, .one (.int .i64))] ([])) _ R w from by kernel_rfl) h)
def spec_l03Digit (a0 : Option Addr) (a1 a2 : Nat) (a3 : Option Addr) (a4 a5 : Nat) (w : World) (R : Value -> World -> Prop) : Prop :=
 ∃ (a6 : Int -> Int -> World -> Prop) (mu : Int -> Int -> World -> Nat), a6 0 999999999 w /\
 ∀ (a7 : Fr) (wv : World) (lo hi : Int), a6 lo hi wv ->
 ((decide ((lo : Int) < hi)) = true ->
 ∃ a8 : Int, a8 = IntKind.wrap .i64 (lo + hi) /\ ∃ a9 : Int, a9 = IntKind.wrap .i64 (a8 + 1) /\ (2 : Int) ≠ 0 /\ ∃ aa : Int, aa = IntKind.wrap .i64 (Int.tdiv a9 2) /\ Calls P 221 ⟨[.int .i64 aa]⟩ wv fun e ab =>
 ∃ ac ae af, e = .returned (.slice ac ae af) /\
 Calls P 175 ⟨[.slice a3 a4 a5, .slice ac ae af]⟩ ab fun ag ah =>
 ∃ ai aj ak, ag = .returned (.slice ai aj ak) /\
 Calls P 222 ⟨[.slice ai aj ak, .slice a0 a1 a2]⟩ ah fun al am =>
 ∃ an, al = .returned (.int .i64 an) /\
 ((decide ((an : Int) <= 0)) = true ->
 a6 aa hi am /\ mu aa hi am < mu lo hi wv) /\
 ((decide ((an : Int) <= 0)) = false ->
 ∃ ao : Int, ao = IntKind.wrap .i64 (aa - 1) /\ a6 lo ao am /\ mu lo ao am < mu lo hi wv)) /\
 ((decide ((lo : Int) < hi)) = false ->
 R (.int .i64 lo) wv)
theorem spec_l03Digit_ret {r_p : Option Addr} {r_n : Nat} {r_c : Nat} {b_p : Option Addr} {b_n : Nat} {b_c : Nat} {w : World} {R : Value → World → Prop} (h : spec_l03Digit r_p r_n r_c b_p b_n b_c w R) : Ret P 274 [(.slice r_p r_n r_c), (.slice b_p b_n b_c)] w R :=
  Ret.of_fsem Tryz.func274 rfl (Eq.mp (show _ = fsem P Tryz.f274 (fun k => cond (Nat.beq k 4) [(5, .one (.int .i64)), (6, .one (.int .i64))] ([])) _ R w from by kernel_rfl) h)
def spec_l06Away (neg : Bool) (a0 : Option Addr) (a1 a2 : Nat) (a3 : Option Addr) (a4 a5 : Nat) (a6 : Option Addr) (a7 a8 : Nat) (m : Int) (w : World) (R : Value -> World -> Prop) : Prop :=
 Calls P 244 ⟨[.slice a3 a4 a5, .slice a3 a4 a5]⟩ w fun e wv =>
 ∃ a9 aa ab, e = .returned (.slice a9 aa ab) /\
 Calls P 222 ⟨[.slice a9 aa ab, .slice a6 a7 a8]⟩ wv fun ac ae =>
 ∃ af, ac = .returned (.int .i64 af) /\
 ((decide ((m : Int) = 0)) = true ->
 R (.bool false) ae) /\
 ((decide ((m : Int) = 0)) = false ->
 ((decide ((m : Int) = 1)) = true ->
 R (.bool true) ae) /\
 ((decide ((m : Int) = 1)) = false ->
 ((decide ((m : Int) = 2)) = true ->
 R (.bool neg) ae) /\
 ((decide ((m : Int) = 2)) = false ->
 ((decide ((m : Int) = 3)) = true ->
 R (.bool (!neg)) ae) /\
 ((decide ((m : Int) = 3)) = false ->
 ((decide ((m : Int) = 4)) = true ->
 R (.bool (decide ((0 : Int) < af))) ae) /\
 ((decide ((m : Int) = 4)) = false ->
 ((decide ((m : Int) = 5)) = true ->
 R (.bool (decide ((0 : Int) <= af))) ae) /\
 ((decide ((m : Int) = 5)) = false ->
 ((decide ((0 : Int) < af)) = true ->
 R (.bool true) ae) /\
 ((decide ((0 : Int) < af)) = false ->
 ((decide ((af : Int) = 0)) = true ->
 Calls P 302 ⟨[.slice a0 a1 a2]⟩ ae fun ag ah =>
 ∃ ai, ag = .returned (.bool ai) /\
 R (.bool (!ai)) ah) /\
 ((decide ((af : Int) = 0)) = false ->
 R (.bool false) ae))))))))
theorem spec_l06Away_ret {neg : Bool} {q_p : Option Addr} {q_n : Nat} {q_c : Nat} {rest_p : Option Addr} {rest_n : Nat} {rest_c : Nat} {den_p : Option Addr} {den_n : Nat} {den_c : Nat} {m : Int} {w : World} {R : Value → World → Prop} (h : spec_l06Away neg q_p q_n q_c rest_p rest_n rest_c den_p den_n den_c m w R) : Ret P 277 [(.bool neg), (.slice q_p q_n q_c), (.slice rest_p rest_n rest_c), (.slice den_p den_n den_c), (.int .i64 m)] w R :=
  Ret.of_fsem Tryz.func277 rfl (Eq.mp (show _ = fsem P Tryz.f277 (fun k => []) _ R w from by kernel_rfl) h)
def spec_RatSub (r0 : Bool) (a0 : Option Addr) (a1 a2 : Nat) (a3 : Option Addr) (a4 a5 : Nat) (s0 : Bool) (a6 : Option Addr) (a7 a8 : Nat) (a9 : Option Addr) (aa ab : Nat) (w : World) (R : Value -> World -> Prop) : Prop :=
 ∀ r wv, New w (.cells ⟨[.bool r0, .slice a0 a1 a2, .slice a3 a4 a5]⟩ 53 (0, 0)) r wv ->
 ∀ ac ae, New wv (.cells ⟨[.bool s0, .slice a6 a7 a8, .slice a9 aa ab]⟩ 53 (0, 0)) ac ae ->
 ∀ af ag, New ae (.cells ⟨[.bool false, .slice none 0 0, .slice none 0 0]⟩ 53 (0, 0)) af ag ->
 ∃ ah ai aj ak al am an, Loads P 53 ⟨ac, 0, none⟩ (.agg #[.bool ah, .slice ai aj ak, .slice al am an]) ag /\ Calls P 235 ⟨[.agg #[.bool ah, .slice ai aj ak, .slice al am an]]⟩ ag fun e ao =>
 ∃ ap aq ar au av aw ax ay, e = .returned (.tuple #[.agg #[.bool ap, .slice aq ar au, .slice av aw ax], .bool ay]) /\
 ∀ az b0, New ao (.cells ⟨[.bool false, .slice none 0 0, .slice none 0 0]⟩ 53 (0, 0)) az b0 ->
 ∃ wv_5, Stores P 53 ⟨az, 0, none⟩ (.agg #[.bool ap, .slice aq ar au, .slice av aw ax]) b0 wv_5 /\
 ((!ay) = true ->
 ∃ wv_6, Stores P 53 ⟨af, 0, none⟩ (.agg #[.bool false, .slice none 0 0, .slice none 0 0]) wv_5 wv_6 /\
 ∃ r0_1 b1 b2 b3 b4 b5 b6, Loads P 53 ⟨af, 0, none⟩ (.agg #[.bool r0_1, .slice b1 b2 b3, .slice b4 b5 b6]) wv_6 /\ R (.tuple #[.agg #[.bool r0_1, .slice b1 b2 b3, .slice b4 b5 b6], .bool false]) wv_6) /\
 ((!ay) = false ->
 ∃ b7 b8 b9 ba bb bc bd, Loads P 53 ⟨r, 0, none⟩ (.agg #[.bool b7, .slice b8 b9 ba, .slice bb bc bd]) wv_5 /\ ∃ be bf bg bh bi bj bk, Loads P 53 ⟨az, 0, none⟩ (.agg #[.bool be, .slice bf bg bh, .slice bi bj bk]) wv_5 /\ Calls P 77 ⟨[.agg #[.bool b7, .slice b8 b9 ba, .slice bb bc bd], .agg #[.bool be, .slice bf bg bh, .slice bi bj bk]]⟩ wv_5 fun bl bm =>
 ∃ bn bo bp bq br bs bt bu, bl = .returned (.tuple #[.agg #[.bool bn, .slice bo bp bq, .slice br bs bt], .bool bu]) /\
 ∃ wv_8, Stores P 53 ⟨af, 0, none⟩ (.agg #[.bool bn, .slice bo bp bq, .slice br bs bt]) bm wv_8 /\
 ∃ r0_2 bv bw bx bz c0 c1, Loads P 53 ⟨af, 0, none⟩ (.agg #[.bool r0_2, .slice bv bw bx, .slice bz c0 c1]) wv_8 /\ R (.tuple #[.agg #[.bool r0_2, .slice bv bw bx, .slice bz c0 c1], .bool bu]) wv_8)
theorem spec_RatSub_ret {r0 : Bool} {r1_p : Option Addr} {r1_n : Nat} {r1_c : Nat} {r2_p : Option Addr} {r2_n : Nat} {r2_c : Nat} {s0 : Bool} {s1_p : Option Addr} {s1_n : Nat} {s1_c : Nat} {s2_p : Option Addr} {s2_n : Nat} {s2_c : Nat} {w : World} {R : Value → World → Prop} (h : spec_RatSub r0 r1_p r1_n r1_c r2_p r2_n r2_c s0 s1_p s1_n s1_c s2_p s2_n s2_c w R) : Ret P 278 [(.agg #[(.bool r0), (.slice r1_p r1_n r1_c), (.slice r2_p r2_n r2_c)]), (.agg #[(.bool s0), (.slice s1_p s1_n s1_c), (.slice s2_p s2_n s2_c)])] w R :=
  Ret.of_fsem Tryz.func278 rfl (Eq.mp (show _ = fsem P Tryz.f278 (fun k => []) _ R w from by kernel_rfl) h)
def impl_subTimes_j0 (a0 : Option Addr) (a1 : Nat) (wv : World) (a2 : Int -> Int -> World -> Prop) (mu : Int -> Int -> World -> Nat) (borrow a3 : Int) (borrow_1 n : Int) (W : World) (R : Value -> World -> Prop) : Prop :=
 (0 <= (a3 : Int) /\ (a3 : Int) < (a1 : Nat)) /\ ptrS a0 fun a4 => ∃ wv_1, Stores P 3 (a4.add (a3.toNat * 1)) (.int .i64 n) W wv_1 /\
 ∃ a5 : Int, a5 = IntKind.wrap .i64 (a3 + 1) /\ a2 borrow_1 a5 wv_1 /\ mu borrow_1 a5 wv_1 < mu borrow a3 wv
def impl_subTimes (a0 : Option Addr) (a1 a2 : Nat) (a3 : Option Addr) (a4 a5 : Nat) (q : Int) (w : World) (R : Value -> World -> Prop) : Prop :=
 ∃ (a6 : Int -> Int -> World -> Prop) (mu : Int -> Int -> World -> Nat), a6 0 0 w /\
 ∀ (a7 : Fr) (wv : World) (borrow a8 : Int), a6 borrow a8 wv ->
 ((decide ((a8 : Int) < ((a4 : Nat) : Int))) = true ->
 (0 <= (a8 : Int) /\ (a8 : Int) < (a4 : Nat)) /\ ptrS a3 fun ad => ∃ a9, Loads P 3 (ad.add (a8.toNat * 1)) (.int .i64 a9) wv /\ (0 <= (a8 : Int) /\ (a8 : Int) < (a1 : Nat)) /\ ptrS a0 fun aa => ∃ ab, Loads P 3 (aa.add (a8.toNat * 1)) (.int .i64 ab) wv /\ ∃ ac : Int, ac = IntKind.wrap .i64 (a9 * q) /\ ∃ ae : Int, ae = IntKind.wrap .i64 (ab - ac) /\ ∃ af : Int, af = IntKind.wrap .i64 (ae - borrow) /\ ((decide ((af : Int) < 0)) = true ->
 ∃ ag : Int, ag = IntKind.wrap .i64 (0 - af) /\ ∃ ah : Int, ah = IntKind.wrap .i64 (ag + 1000000000) /\ ∃ ai : Int, ai = IntKind.wrap .i64 (ah - 1) /\ (1000000000 : Int) ≠ 0 /\ ∃ aj : Int, aj = IntKind.wrap .i64 (Int.tdiv ai 1000000000) /\ ∃ ak : Int, ak = IntKind.wrap .i64 (aj * 1000000000) /\ ∃ al : Int, al = IntKind.wrap .i64 (af + ak) /\ impl_subTimes_j0 a0 a1 wv a6 mu borrow a8 aj al wv R) /\
 ((decide ((af : Int) < 0)) = false ->
 impl_subTimes_j0 a0 a1 wv a6 mu borrow a8 0 af wv R)) /\
 ((decide ((a8 : Int) < ((a4 : Nat) : Int))) = false ->
 (0 <= (((a4 : Nat) : Int) : Int) /\ (((a4 : Nat) : Int) : Int) < (a1 : Nat)) /\ ptrS a0 fun am => ∃ an, Loads P 3 (am.add (a4 * 1)) (.int .i64 an) wv /\ ∃ ao : Int, ao = IntKind.wrap .i64 (an - borrow) /\ (0 <= (((a4 : Nat) : Int) : Int) /\ (((a4 : Nat) : Int) : Int) < (a1 : Nat)) /\ ptrS a0 fun ap => ∃ wv_2, Stores P 3 (ap.add (a4 * 1)) (.int .i64 ao) wv wv_2 /\
 (0 <= (((a4 : Nat) : Int) : Int) /\ (((a4 : Nat) : Int) : Int) < (a1 : Nat)) /\ ptrS a0 fun aq => ∃ ar, Loads P 3 (aq.add (a4 * 1)) (.int .i64 ar) wv_2 /\ R (.bool (decide ((ar : Int) < 0))) wv_2)
theorem impl_subTimes_ret {u_p : Option Addr} {u_n : Nat} {u_c : Nat} {v_p : Option Addr} {v_n : Nat} {v_c : Nat} {q : Int} {w : World} {R : Value → World → Prop} (h : impl_subTimes u_p u_n u_c v_p v_n v_c q w R) : Ret P 279 [(.slice u_p u_n u_c), (.slice v_p v_n v_c), (.int .i64 q)] w R :=
  Ret.of_fsem Tryz.func279 rfl (Eq.mp (show _ = fsem P Tryz.f279 (fun k => cond (Nat.beq k 4) [(7, .one (.int .i64)), (13, .one (.int .i64))] ([])) _ R w from by kernel_rfl) h)
def impl_addBack (a0 : Option Addr) (a1 a2 : Nat) (a3 : Option Addr) (a4 a5 : Nat) (w : World) (R : Value -> World -> Prop) : Prop :=
 ∃ (a6 : Int -> Int -> World -> Prop) (mu : Int -> Int -> World -> Nat), a6 0 0 w /\
 ∀ (a7 : Fr) (wv : World) (carry t9 : Int), a6 carry t9 wv ->
 ((decide ((t9 : Int) < ((a4 : Nat) : Int))) = true ->
 (0 <= (t9 : Int) /\ (t9 : Int) < (a4 : Nat)) /\ ptrS a3 fun ad => ∃ a8, Loads P 3 (ad.add (t9.toNat * 1)) (.int .i64 a8) wv /\ (0 <= (t9 : Int) /\ (t9 : Int) < (a1 : Nat)) /\ ptrS a0 fun a9 => ∃ aa, Loads P 3 (a9.add (t9.toNat * 1)) (.int .i64 aa) wv /\ ∃ ab : Int, ab = IntKind.wrap .i64 (aa + a8) /\ ∃ ac : Int, ac = IntKind.wrap .i64 (carry + ab) /\ (1000000000 : Int) ≠ 0 /\ ∃ ae : Int, ae = Int.tmod ac 1000000000 /\ (0 <= (t9 : Int) /\ (t9 : Int) < (a1 : Nat)) /\ ptrS a0 fun af => ∃ wv_1, Stores P 3 (af.add (t9.toNat * 1)) (.int .i64 ae) wv wv_1 /\
 (1000000000 : Int) ≠ 0 /\ ∃ ag : Int, ag = IntKind.wrap .i64 (Int.tdiv ac 1000000000) /\ ∃ ah : Int, ah = IntKind.wrap .i64 (t9 + 1) /\ a6 ag ah wv_1 /\ mu ag ah wv_1 < mu carry t9 wv) /\
 ((decide ((t9 : Int) < ((a4 : Nat) : Int))) = false ->
 (0 <= (((a4 : Nat) : Int) : Int) /\ (((a4 : Nat) : Int) : Int) < (a1 : Nat)) /\ ptrS a0 fun ai => ∃ aj, Loads P 3 (ai.add (a4 * 1)) (.int .i64 aj) wv /\ ∃ ak : Int, ak = IntKind.wrap .i64 (aj + carry) /\ (0 <= (((a4 : Nat) : Int) : Int) /\ (((a4 : Nat) : Int) : Int) < (a1 : Nat)) /\ ptrS a0 fun al => ∃ wv_2, Stores P 3 (al.add (a4 * 1)) (.int .i64 ak) wv wv_2 /\
 R (.tuple #[]) wv_2)
theorem impl_addBack_ret {u_p : Option Addr} {u_n : Nat} {u_c : Nat} {v_p : Option Addr} {v_n : Nat} {v_c : Nat} {w : World} {R : Value → World → Prop} (h : impl_addBack u_p u_n u_c v_p v_n v_c w R) : Ret P 280 [(.slice u_p u_n u_c), (.slice v_p v_n v_c)] w R :=
  Ret.of_fsem Tryz.func280 rfl (Eq.mp (show _ = fsem P Tryz.f280 (fun k => cond (Nat.beq k 3) [(4, .one (.int .i64)), (9, .one (.int .i64))] ([])) _ R w from by kernel_rfl) h)
end Go.Proofs.YtfehpaekbbmkcaaGreatDoor

namespace Go.Proofs.YtfehpaekbbmkcaaGreatDoor
open Go Go.Proofs.YtfehpaekbbmkcaaGreatDoor.Sx
set_option linter.unusedVariables false
set_option maxRecDepth 100000
def spec_NatTen (k : Int) (w : World) (R : Value -> World -> Prop) : Prop :=
 Calls P 125 ⟨[.int .i64 k, .int .i64 0, .int .i64 449]⟩ w fun e wv =>
 ∃ t7, e = .returned (.bool t7) /\
 ((!t7) = true ->
 R (.slice none 0 0) wv) /\
 ((!t7) = false ->
 (9 : Int) ≠ 0 /\ ∃ a0 : Int, a0 = IntKind.wrap .i64 (Int.tdiv k 9) /\ (0 <= (a0 : Int) /\ (a0 : Int) <= a0 /\ ((8 : Nat) : Int) * a0 <= 281474976710656) /\
 ∀ r a1, New wv (.cells ⟨zeroRow (.int .i64 0) (a0.toNat * 1)⟩ 3 (0, 0)) r a1 ->
 ∃ (a2 : Int -> Int -> World -> Prop) (mu : Int -> Int -> World -> Nat), a2 1 0 a1 /\
 ∀ (a3 : Fr) (a4 : World) (f i : Int), a2 f i a4 ->
 (9 : Int) ≠ 0 /\ ∃ a5 : Int, a5 = Int.tmod k 9 /\ ((decide ((i : Int) < a5)) = true ->
 ∃ a6 : Int, a6 = IntKind.wrap .i64 (f * 10) /\ ∃ a7 : Int, a7 = IntKind.wrap .i64 (i + 1) /\ a2 a6 a7 a4 /\ mu a6 a7 a4 < mu f i a4) /\
 ((decide ((i : Int) < a5)) = false ->
 ∀ a8 a9, New a4 (.cells ⟨[.int .i64 f]⟩ 3 (0, 0)) a8 a9 ->
 ∃ aa ab ac ae, Appends P [22, 22] [(.slice (some ⟨r, 0, none⟩) a0.toNat a0.toNat), (.slice (some ⟨a8, 0, none⟩) 1 1)] (.slice aa ab ac) a9 ae /\
 R (.slice aa ab ac) ae))
theorem spec_NatTen_ret {k : Int} {w : World} {R : Value → World → Prop} (h : spec_NatTen k w R) : Ret P 284 [(.int .i64 k)] w R :=
  Ret.of_fsem Tryz.func284 rfl (Eq.mp (show _ = fsem P Tryz.f284 (fun k => cond (Nat.beq k 7) [(4, .one (.int .i64)), (5, .one (.int .i64))] ([])) _ R w from by kernel_rfl) h)
def impl_RatRound (r0 : Bool) (a0 : Option Addr) (a1 a2 : Nat) (a3 : Option Addr) (a4 a5 : Nat) (m : Int) (w : World) (R : Value -> World -> Prop) : Prop :=
 ∀ r wv, New w (.cells ⟨[.bool r0, .slice a0 a1 a2, .slice a3 a4 a5]⟩ 53 (0, 0)) r wv ->
 ∀ a6 a7, New wv (.cells ⟨[.bool false, .slice none 0 0]⟩ 31 (0, 0)) a6 a7 ->
 ∃ a8 a9 aa ab ac ae af, Loads P 53 ⟨r, 0, none⟩ (.agg #[.bool a8, .slice a9 aa ab, .slice ac ae af]) a7 /\ Calls P 85 ⟨[.agg #[.bool a8, .slice a9 aa ab, .slice ac ae af]]⟩ a7 fun e ag =>
 ∃ t7, e = .returned (.bool t7) /\
 ((!t7) = true ->
 (true = true ->
 ∃ wv_3, Stores P 31 ⟨a6, 0, none⟩ (.agg #[.bool false, .slice none 0 0]) ag wv_3 /\
 ∃ r0_1 ah ai aj, Loads P 31 ⟨a6, 0, none⟩ (.agg #[.bool r0_1, .slice ah ai aj]) wv_3 /\ R (.tuple #[.agg #[.bool r0_1, .slice ah ai aj], .bool false]) wv_3) /\
 (true = false ->
 ∃ ak al am an, Loads P 31 ((⟨r, 0, none⟩ : Addr).add 0) (.agg #[.bool ak, .slice al am an]) ag /\ ∃ ao ap aq, Loads P 22 ((⟨r, 0, none⟩ : Addr).add 2) (.slice ao ap aq) ag /\ Calls P 329 ⟨[.agg #[.bool ak, .slice al am an], .slice ao ap aq, .int .i64 m]⟩ ag fun ar au =>
 ∃ av aw ax ay, ar = .returned (.agg #[.bool av, .slice aw ax ay]) /\
 ∃ wv_5, Stores P 31 ⟨a6, 0, none⟩ (.agg #[.bool av, .slice aw ax ay]) au wv_5 /\
 ∃ r0_2 az b0 b1, Loads P 31 ⟨a6, 0, none⟩ (.agg #[.bool r0_2, .slice az b0 b1]) wv_5 /\ R (.tuple #[.agg #[.bool r0_2, .slice az b0 b1], .bool true]) wv_5)) /\
 ((!t7) = false ->
 Calls P 133 ⟨[.int .i64 m]⟩ ag fun b2 b3 =>
 ∃ b4, b2 = .returned (.bool b4) /\
 ((!b4) = true ->
 ∃ wv_7, Stores P 31 ⟨a6, 0, none⟩ (.agg #[.bool false, .slice none 0 0]) b3 wv_7 /\
 ∃ r0_3 b5 b6 b7, Loads P 31 ⟨a6, 0, none⟩ (.agg #[.bool r0_3, .slice b5 b6 b7]) wv_7 /\ R (.tuple #[.agg #[.bool r0_3, .slice b5 b6 b7], .bool false]) wv_7) /\
 ((!b4) = false ->
 ∃ b8 b9 ba bb, Loads P 31 ((⟨r, 0, none⟩ : Addr).add 0) (.agg #[.bool b8, .slice b9 ba bb]) b3 /\ ∃ bc bd be, Loads P 22 ((⟨r, 0, none⟩ : Addr).add 2) (.slice bc bd be) b3 /\ Calls P 329 ⟨[.agg #[.bool b8, .slice b9 ba bb], .slice bc bd be, .int .i64 m]⟩ b3 fun bf bg =>
 ∃ bh bi bj bk, bf = .returned (.agg #[.bool bh, .slice bi bj bk]) /\
 ∃ wv_9, Stores P 31 ⟨a6, 0, none⟩ (.agg #[.bool bh, .slice bi bj bk]) bg wv_9 /\
 ∃ r0_4 bl bm bn, Loads P 31 ⟨a6, 0, none⟩ (.agg #[.bool r0_4, .slice bl bm bn]) wv_9 /\ R (.tuple #[.agg #[.bool r0_4, .slice bl bm bn], .bool true]) wv_9))
theorem impl_RatRound_ret {r0 : Bool} {r1_p : Option Addr} {r1_n : Nat} {r1_c : Nat} {r2_p : Option Addr} {r2_n : Nat} {r2_c : Nat} {m : Int} {w : World} {R : Value → World → Prop} (h : impl_RatRound r0 r1_p r1_n r1_c r2_p r2_n r2_c m w R) : Ret P 299 [(.agg #[(.bool r0), (.slice r1_p r1_n r1_c), (.slice r2_p r2_n r2_c)]), (.int .i64 m)] w R :=
  Ret.of_fsem Tryz.func299 rfl (Eq.mp (show _ = fsem P Tryz.f299 (fun k => []) _ R w from by kernel_rfl) h)
def impl_RatInt (x0 : Bool) (a0 : Option Addr) (a1 a2 : Nat) (w : World) (R : Value -> World -> Prop) : Prop :=
 ∀ r wv, New w (.cells ⟨[.bool x0, .slice a0 a1 a2]⟩ 31 (0, 0)) r wv ->
 ∀ a3 a4, New wv (.cells ⟨[.bool false, .slice none 0 0, .slice none 0 0]⟩ 53 (0, 0)) a3 a4 ->
 ∃ a5 a6 a7 a8, (∀ wv_2, Ext a4.drew wv_2 -> Loads P 31 ⟨r, 0, none⟩ (.agg #[.bool a5, .slice a6 a7 a8]) wv_2) /\ Calls P 139 ⟨[.int .i64 1]⟩ a4.drew fun e a9 =>
 ∃ aa ab ac ae, e = .returned (.agg #[.bool aa, .slice ab ac ae]) /\
 Ext a4.drew a9 /\ Calls P 330 ⟨[.agg #[.bool a5, .slice a6 a7 a8], .agg #[.bool aa, .slice ab ac ae]]⟩ a9 fun af ag =>
 ∃ ah ai aj ak al am an t6, af = .returned (.tuple #[.agg #[.bool ah, .slice ai aj ak, .slice al am an], .bool t6]) /\
 ∃ wv_5, Stores P 53 ⟨a3, 0, none⟩ (.agg #[.bool ah, .slice ai aj ak, .slice al am an]) ag wv_5 /\
 ∃ r0 ao ap aq ar au av, Loads P 53 ⟨a3, 0, none⟩ (.agg #[.bool r0, .slice ao ap aq, .slice ar au av]) wv_5 /\ R (.tuple #[.agg #[.bool r0, .slice ao ap aq, .slice ar au av], .bool t6]) wv_5
theorem impl_RatInt_ret {x0 : Bool} {x1_p : Option Addr} {x1_n : Nat} {x1_c : Nat} {w : World} {R : Value → World → Prop} (h : impl_RatInt x0 x1_p x1_n x1_c w R) : Ret P 300 [(.agg #[(.bool x0), (.slice x1_p x1_n x1_c)])] w R :=
  Ret.of_fsem Tryz.func300 rfl (Eq.mp (show _ = fsem P Tryz.f300 (fun k => []) _ R w from by kernel_rfl) h)
def impl_RatSub (r0 : Bool) (a0 : Option Addr) (a1 a2 : Nat) (a3 : Option Addr) (a4 a5 : Nat) (s0 : Bool) (a6 : Option Addr) (a7 a8 : Nat) (a9 : Option Addr) (aa ab : Nat) (w : World) (R : Value -> World -> Prop) : Prop :=
 ∀ r wv, New w (.cells ⟨[.bool r0, .slice a0 a1 a2, .slice a3 a4 a5]⟩ 53 (0, 0)) r wv ->
 ∀ ac ae, New wv (.cells ⟨[.bool s0, .slice a6 a7 a8, .slice a9 aa ab]⟩ 53 (0, 0)) ac ae ->
 ∀ af ag, New ae (.cells ⟨[.bool false, .slice none 0 0, .slice none 0 0]⟩ 53 (0, 0)) af ag ->
 ∃ ah ai aj ak al am an, Loads P 53 ⟨r, 0, none⟩ (.agg #[.bool ah, .slice ai aj ak, .slice al am an]) ag /\ ∃ ao ap aq ar au av aw, Loads P 53 ⟨ac, 0, none⟩ (.agg #[.bool ao, .slice ap aq ar, .slice au av aw]) ag /\ Calls P 183 ⟨[.agg #[.bool ah, .slice ai aj ak, .slice al am an], .agg #[.bool ao, .slice ap aq ar, .slice au av aw]]⟩ ag fun e ax =>
 ∃ t8, e = .returned (.bool t8) /\
 ((!t8) = true ->
 ∃ wv_4, Stores P 53 ⟨af, 0, none⟩ (.agg #[.bool false, .slice none 0 0, .slice none 0 0]) ax wv_4 /\
 ∃ r0_1 ay az b0 b1 b2 b3, Loads P 53 ⟨af, 0, none⟩ (.agg #[.bool r0_1, .slice ay az b0, .slice b1 b2 b3]) wv_4 /\ R (.tuple #[.agg #[.bool r0_1, .slice ay az b0, .slice b1 b2 b3], .bool false]) wv_4) /\
 ((!t8) = false ->
 ∃ b4 b5 b6 b7 b8 b9 ba, (∀ wv_5, Ext ax.drew wv_5 -> Loads P 53 ⟨r, 0, none⟩ (.agg #[.bool b4, .slice b5 b6 b7, .slice b8 b9 ba]) wv_5) /\ ∃ bb bc bd be bf bg bh, (∀ wv_6, Ext ax.drew wv_6 -> Loads P 53 ⟨ac, 0, none⟩ (.agg #[.bool bb, .slice bc bd be, .slice bf bg bh]) wv_6) /\ Calls P 331 ⟨[.agg #[.bool bb, .slice bc bd be, .slice bf bg bh]]⟩ ax.drew fun bi bj =>
 ∃ bk bl bm bn bo bp bq, bi = .returned (.agg #[.bool bk, .slice bl bm bn, .slice bo bp bq]) /\
 Ext ax.drew bj /\ Calls P 87 ⟨[.agg #[.bool b4, .slice b5 b6 b7, .slice b8 b9 ba], .agg #[.bool bk, .slice bl bm bn, .slice bo bp bq]]⟩ bj fun br bs =>
 ∃ bt bu bv bw bx bz c0 c1, br = .returned (.tuple #[.agg #[.bool bt, .slice bu bv bw, .slice bx bz c0], .bool c1]) /\
 ∃ wv_9, Stores P 53 ⟨af, 0, none⟩ (.agg #[.bool bt, .slice bu bv bw, .slice bx bz c0]) bs wv_9 /\
 ∃ r0_2 c2 c3 c4 c5 c6 c7, Loads P 53 ⟨af, 0, none⟩ (.agg #[.bool r0_2, .slice c2 c3 c4, .slice c5 c6 c7]) wv_9 /\ R (.tuple #[.agg #[.bool r0_2, .slice c2 c3 c4, .slice c5 c6 c7], .bool c1]) wv_9)
theorem impl_RatSub_ret {r0 : Bool} {r1_p : Option Addr} {r1_n : Nat} {r1_c : Nat} {r2_p : Option Addr} {r2_n : Nat} {r2_c : Nat} {s0 : Bool} {s1_p : Option Addr} {s1_n : Nat} {s1_c : Nat} {s2_p : Option Addr} {s2_n : Nat} {s2_c : Nat} {w : World} {R : Value → World → Prop} (h : impl_RatSub r0 r1_p r1_n r1_c r2_p r2_n r2_c s0 s1_p s1_n s1_c s2_p s2_n s2_c w R) : Ret P 301 [(.agg #[(.bool r0), (.slice r1_p r1_n r1_c), (.slice r2_p r2_n r2_c)]), (.agg #[(.bool s0), (.slice s1_p s1_n s1_c), (.slice s2_p s2_n s2_c)])] w R :=
  Ret.of_fsem Tryz.func301 rfl (Eq.mp (show _ = fsem P Tryz.f301 (fun k => []) _ R w from by kernel_rfl) h)
def spec_NatEven (a0 : Option Addr) (a1 a2 : Nat) (w : World) (R : Value -> World -> Prop) : Prop :=
 Calls P 223 ⟨[.slice a0 a1 a2]⟩ w fun e wv =>
 ∃ t4, e = .returned (.bool t4) /\
 (t4 = true ->
 ((decide ((((a1 : Nat) : Int) : Int) = 0)) = true ->
 R (.bool true) wv) /\
 ((decide ((((a1 : Nat) : Int) : Int) = 0)) = false ->
 (0 <= (0 : Int) /\ (0 : Int) < (a1 : Nat)) /\ ptrS a0 fun ad => ∃ a3, Loads P 3 (ad.add (0 * 1)) (.int .i64 a3) wv /\ (2 : Int) ≠ 0 /\ ∃ a4 : Int, a4 = Int.tmod a3 2 /\ R (.bool (decide ((a4 : Int) = 0))) wv)) /\
 (t4 = false ->
 R (.bool false) wv)
theorem spec_NatEven_ret {a_p : Option Addr} {a_n : Nat} {a_c : Nat} {w : World} {R : Value → World → Prop} (h : spec_NatEven a_p a_n a_c w R) : Ret P 302 [(.slice a_p a_n a_c)] w R :=
  Ret.of_fsem Tryz.func302 rfl (Eq.mp (show _ = fsem P Tryz.f302 (fun k => []) _ R w from by kernel_rfl) h)
def impl_roundQuotient_j0 (r a0 : Nat) (a1 : Option Addr) (a2 a3 : Nat) (W : World) (R : Value -> World -> Prop) : Prop :=
 ∃ a4, Loads P 4 ((⟨r, 0, none⟩ : Addr).add 0) (.bool a4) W /\ Calls P 173 ⟨[.bool a4, .slice a1 a2 a3]⟩ W fun a5 a6 =>
 ∃ a7 a8 a9 aa, a5 = .returned (.agg #[.bool a7, .slice a8 a9 aa]) /\
 ∃ wv_12, Stores P 31 ⟨a0, 0, none⟩ (.agg #[.bool a7, .slice a8 a9 aa]) a6 wv_12 /\
 ∃ r0 ab ac ae, Loads P 31 ⟨a0, 0, none⟩ (.agg #[.bool r0, .slice ab ac ae]) wv_12 /\ R (.agg #[.bool r0, .slice ab ac ae]) wv_12
def impl_roundQuotient (num0 : Bool) (a0 : Option Addr) (a1 a2 : Nat) (a3 : Option Addr) (a4 a5 : Nat) (m : Int) (w : World) (R : Value -> World -> Prop) : Prop :=
 ∀ r wv, New w (.cells ⟨[.bool num0, .slice a0 a1 a2]⟩ 31 (0, 0)) r wv ->
 ∀ a6 a7, New wv (.cells ⟨[.bool false, .slice none 0 0]⟩ 31 (0, 0)) a6 a7 ->
 ∃ a8 a9 aa, Loads P 22 ((⟨r, 0, none⟩ : Addr).add 1) (.slice a8 a9 aa) a7 /\ Calls P 164 ⟨[.slice a8 a9 aa, .slice a3 a4 a5]⟩ a7 fun e ab =>
 ∃ ac ae af ag ah ai, e = .returned (.tuple #[.slice ac ae af, .slice ag ah ai]) /\
 ((decide ((0 : Int) < ((ah : Nat) : Int))) = true ->
 Calls P 350 ⟨[]⟩ ab.drew fun aj ak =>
 ∃ (al : ByteArray) (am : Value) (an : ByteArray) (ao : Value) (ap : ByteArray) (aq : Value) (ar : ByteArray) (au : Value) (av : ByteArray) (aw : Value) (ax : ByteArray) (ay : Value) (az : ByteArray) (b0 : Value), aj = .returned (.agg #[.string al, am, .string an, ao, .string ap, aq, .string ar, au, .string av, aw, .string ax, ay, .string az, b0]) /\
 Ext ab.drew ak /\ indexS P 331 (.agg #[.string al, am, .string an, ao, .string ap, aq, .string ar, au, .string av, aw, .string ax, ay, .string az, b0]) (.int .i64 m) fun (el : Value) => fieldS P 330 el 1 fun (fl : Value) => ∃ b1, (∀ wv_4, Ext ab.drew wv_4 -> Loads P 4 ((⟨r, 0, none⟩ : Addr).add 0) (.bool b1) wv_4) /\ Calls P 137 ⟨[.slice ag ah ai, .slice ag ah ai]⟩ ak fun b2 b3 =>
 ∃ b4 b5 b6, b2 = .returned (.slice b4 b5 b6) /\
 Ext ak b3 /\ Calls P 170 ⟨[.slice b4 b5 b6, .slice a3 a4 a5]⟩ b3 fun b7 b8 =>
 ∃ b9, b7 = .returned (.int .i64 b9) /\
 Ext b3 b8 /\ Calls P 351 ⟨[.slice ac ae af]⟩ b8 fun ba bb =>
 ∃ bc, ba = .returned (.bool bc) /\
 Ext b8 bb /\ CallW P fl [.bool b1, .int .i64 b9, (.bool (!bc))] bb fun bd be =>
 ∃ bf, bd = .returned (.bool bf) /\
 (bf = true ->
 ∀ bg bh, New be (.cells ⟨[.int .i64 1]⟩ 3 (0, 0)) bg bh ->
 Calls P 137 ⟨[.slice ac ae af, (.slice (some ⟨bg, 0, none⟩) 1 1)]⟩ bh fun bi bj =>
 ∃ bk bl bm, bi = .returned (.slice bk bl bm) /\
 impl_roundQuotient_j0 r a6 bk bl bm bj R) /\
 (bf = false ->
 impl_roundQuotient_j0 r a6 ac ae af be R)) /\
 ((decide ((0 : Int) < ((ah : Nat) : Int))) = false ->
 (false = true ->
 ∀ bn bo, New ab.drew (.cells ⟨[.int .i64 1]⟩ 3 (0, 0)) bn bo ->
 Calls P 137 ⟨[.slice ac ae af, (.slice (some ⟨bn, 0, none⟩) 1 1)]⟩ bo fun bp bq =>
 ∃ br bs bt, bp = .returned (.slice br bs bt) /\
 impl_roundQuotient_j0 r a6 br bs bt bq R) /\
 (false = false ->
 impl_roundQuotient_j0 r a6 ac ae af ab.drew R))
theorem impl_roundQuotient_ret {num0 : Bool} {num1_p : Option Addr} {num1_n : Nat} {num1_c : Nat} {den_p : Option Addr} {den_n : Nat} {den_c : Nat} {m : Int} {w : World} {R : Value → World → Prop} (h : impl_roundQuotient num0 num1_p num1_n num1_c den_p den_n den_c m w R) : Ret P 329 [(.agg #[(.bool num0), (.slice num1_p num1_n num1_c)]), (.slice den_p den_n den_c), (.int .i64 m)] w R :=
  Ret.of_fsem Tryz.func329 rfl (Eq.mp (show _ = fsem P Tryz.f329 (fun k => []) _ R w from by kernel_rfl) h)
def impl_RatMake_j0 (r a0 a1 : Nat) (W : World) (R : Value -> World -> Prop) : Prop :=
 ∃ a2, (∀ wv_5, Ext W.drew wv_5 -> Loads P 4 ((⟨r, 0, none⟩ : Addr).add 0) (.bool a2) wv_5) /\ ∃ a3, (∀ wv_6, Ext W.drew wv_6 -> Loads P 4 ((⟨a0, 0, none⟩ : Addr).add 0) (.bool a3) wv_6) /\ ∃ a4 a5 a6, (∀ wv_7, Ext W.drew wv_7 -> Loads P 22 ((⟨r, 0, none⟩ : Addr).add 1) (.slice a4 a5 a6) wv_7) /\ Calls P 173 ⟨[(.bool (!(a2 == a3))), .slice a4 a5 a6]⟩ W.drew fun a7 a8 =>
 ∃ a9 aa ab ac, a7 = .returned (.agg #[.bool a9, .slice aa ab ac]) /\
 Ext W.drew a8 /\ ∃ ae af ag, (∀ wv_9, Ext W.drew wv_9 -> Loads P 22 ((⟨a0, 0, none⟩ : Addr).add 1) (.slice ae af ag) wv_9) /\ Calls P 185 ⟨[.agg #[.bool a9, .slice aa ab ac], .slice ae af ag]⟩ a8 fun ah ai =>
 ∃ aj ak al am an ao ap aq, ah = .returned (.tuple #[.agg #[.bool aj, .slice ak al am, .slice an ao ap], .bool aq]) /\
 ∃ wv_11, Stores P 53 ⟨a1, 0, none⟩ (.agg #[.bool aj, .slice ak al am, .slice an ao ap]) ai wv_11 /\
 ∃ r0_1 ar au av aw ax ay, Loads P 53 ⟨a1, 0, none⟩ (.agg #[.bool r0_1, .slice ar au av, .slice aw ax ay]) wv_11 /\ R (.tuple #[.agg #[.bool r0_1, .slice ar au av, .slice aw ax ay], .bool aq]) wv_11
def impl_RatMake (num0 : Bool) (a0 : Option Addr) (a1 a2 : Nat) (den0 : Bool) (a3 : Option Addr) (a4 a5 : Nat) (w : World) (R : Value -> World -> Prop) : Prop :=
 ∀ r wv, New w (.cells ⟨[.bool num0, .slice a0 a1 a2]⟩ 31 (0, 0)) r wv ->
 ∀ a6 a7, New wv (.cells ⟨[.bool den0, .slice a3 a4 a5]⟩ 31 (0, 0)) a6 a7 ->
 ∀ a8 a9, New a7 (.cells ⟨[.bool false, .slice none 0 0, .slice none 0 0]⟩ 53 (0, 0)) a8 a9 ->
 ∃ aa ab ac ae, Loads P 31 ⟨r, 0, none⟩ (.agg #[.bool aa, .slice ab ac ae]) a9 /\ ∃ af ag ah ai, Loads P 31 ⟨a6, 0, none⟩ (.agg #[.bool af, .slice ag ah ai]) a9 /\ Calls P 352 ⟨[.agg #[.bool aa, .slice ab ac ae], .agg #[.bool af, .slice ag ah ai]]⟩ a9 fun e aj =>
 ∃ t8, e = .returned (.bool t8) /\
 ((!t8) = true ->
 (true = true ->
 ∃ wv_4, Stores P 53 ⟨a8, 0, none⟩ (.agg #[.bool false, .slice none 0 0, .slice none 0 0]) aj wv_4 /\
 ∃ r0 ak al am an ao ap, Loads P 53 ⟨a8, 0, none⟩ (.agg #[.bool r0, .slice ak al am, .slice an ao ap]) wv_4 /\ R (.tuple #[.agg #[.bool r0, .slice ak al am, .slice an ao ap], .bool false]) wv_4) /\
 (true = false ->
 impl_RatMake_j0 r a6 a8 aj R)) /\
 ((!t8) = false ->
 ∃ aq ar au, Loads P 22 ((⟨a6, 0, none⟩ : Addr).add 1) (.slice aq ar au) aj /\ ((decide ((((ar : Nat) : Int) : Int) = 0)) = true ->
 ∃ wv_12, Stores P 53 ⟨a8, 0, none⟩ (.agg #[.bool false, .slice none 0 0, .slice none 0 0]) aj wv_12 /\
 ∃ r0_2 av aw ax ay az b0, Loads P 53 ⟨a8, 0, none⟩ (.agg #[.bool r0_2, .slice av aw ax, .slice ay az b0]) wv_12 /\ R (.tuple #[.agg #[.bool r0_2, .slice av aw ax, .slice ay az b0], .bool false]) wv_12) /\
 ((decide ((((ar : Nat) : Int) : Int) = 0)) = false ->
 impl_RatMake_j0 r a6 a8 aj R))
theorem impl_RatMake_ret {num0 : Bool} {num1_p : Option Addr} {num1_n : Nat} {num1_c : Nat} {den0 : Bool} {den1_p : Option Addr} {den1_n : Nat} {den1_c : Nat} {w : World} {R : Value → World → Prop} (h : impl_RatMake num0 num1_p num1_n num1_c den0 den1_p den1_n den1_c w R) : Ret P 330 [(.agg #[(.bool num0), (.slice num1_p num1_n num1_c)]), (.agg #[(.bool den0), (.slice den1_p den1_n den1_c)])] w R :=
  Ret.of_fsem Tryz.func330 rfl (Eq.mp (show _ = fsem P Tryz.f330 (fun k => []) _ R w from by kernel_rfl) h)
def impl_ratNeg (r0 : Bool) (a0 : Option Addr) (a1 a2 : Nat) (a3 : Option Addr) (a4 a5 : Nat) (w : World) (R : Value -> World -> Prop) : Prop :=
 ∀ r wv, New w (.cells ⟨[.bool r0, .slice a0 a1 a2, .slice a3 a4 a5]⟩ 53 (0, 0)) r wv ->
 ∀ a6 a7, New wv (.cells ⟨[.bool false, .slice none 0 0, .slice none 0 0]⟩ 53 (0, 0)) a6 a7 ->
 ∃ a8 a9 aa ab, (∀ wv_2, Ext a7.drew wv_2 -> Loads P 31 ((⟨r, 0, none⟩ : Addr).add 0) (.agg #[.bool a8, .slice a9 aa ab]) wv_2) /\ Calls P 226 ⟨[.agg #[.bool a8, .slice a9 aa ab]]⟩ a7.drew fun e ac =>
 ∃ ae af ag ah, e = .returned (.agg #[.bool ae, .slice af ag ah]) /\
 Ext a7.drew ac /\ ∃ ai aj ak, (∀ wv_4, Ext a7.drew wv_4 -> Loads P 22 ((⟨r, 0, none⟩ : Addr).add 2) (.slice ai aj ak) wv_4) /\ Calls P 162 ⟨[.slice ai aj ak]⟩ ac fun al am =>
 ∃ an ao ap, al = .returned (.slice an ao ap) /\
 ∃ wv_6, Stores P 53 ⟨a6, 0, none⟩ (.agg #[.bool ae, .slice af ag ah, .slice an ao ap]) am wv_6 /\
 ∃ r0_1 aq ar au av aw ax, Loads P 53 ⟨a6, 0, none⟩ (.agg #[.bool r0_1, .slice aq ar au, .slice av aw ax]) wv_6 /\ R (.agg #[.bool r0_1, .slice aq ar au, .slice av aw ax]) wv_6
theorem impl_ratNeg_ret {r0 : Bool} {r1_p : Option Addr} {r1_n : Nat} {r1_c : Nat} {r2_p : Option Addr} {r2_n : Nat} {r2_c : Nat} {w : World} {R : Value → World → Prop} (h : impl_ratNeg r0 r1_p r1_n r1_c r2_p r2_n r2_c w R) : Ret P 331 [(.agg #[(.bool r0), (.slice r1_p r1_n r1_c), (.slice r2_p r2_n r2_c)])] w R :=
  Ret.of_fsem Tryz.func331 rfl (Eq.mp (show _ = fsem P Tryz.f331 (fun k => []) _ R w from by kernel_rfl) h)
def impl_roundModes (w : World) (R : Value -> World -> Prop) : Prop :=
 ∀ r wv, New w (.cells ⟨[.string ByteArray.empty, .nilFunc, .string ByteArray.empty, .nilFunc, .string ByteArray.empty, .nilFunc, .string ByteArray.empty, .nilFunc, .string ByteArray.empty, .nilFunc, .string ByteArray.empty, .nilFunc, .string ByteArray.empty, .nilFunc]⟩ 331 (0, 0)) r wv ->
 ∃ wv_1, Stores P 331 ⟨r, 0, none⟩ (.agg #[(.string (S [100, 111, 119, 110])), (.func (.func 357) #[] #[]), (.string (S [117, 112])), (.func (.func 358) #[] #[]), (.string (S [102, 108, 111, 111, 114])), (.func (.func 359) #[] #[]), (.string (S [99, 101, 105, 108])), (.func (.func 360) #[] #[]), (.string (S [104, 97, 108, 102, 100, 111, 119, 110])), (.func (.func 361) #[] #[]), (.string (S [104, 97, 108, 102, 117, 112])), (.func (.func 362) #[] #[]), (.string (S [104, 97, 108, 102, 101, 118, 101, 110])), (.func (.func 363) #[] #[])]) wv wv_1 /\
 ∃ (r0 : ByteArray) (r1 : Value) (r2 : ByteArray) (r3 : Value) (r4 : ByteArray) (r5 : Value) (r6 : ByteArray) (r7 : Value) (r8 : ByteArray) (r9 : Value) (r10 : ByteArray) (r11 : Value) (r12 : ByteArray) (r13 : Value), Loads P 331 ⟨r, 0, none⟩ (.agg #[.string r0, r1, .string r2, r3, .string r4, r5, .string r6, r7, .string r8, r9, .string r10, r11, .string r12, r13]) wv_1 /\ R (.agg #[.string r0, r1, .string r2, r3, .string r4, r5, .string r6, r7, .string r8, r9, .string r10, r11, .string r12, r13]) wv_1
theorem impl_roundModes_eq (w : World) (R : Value → World → Prop) : impl_roundModes w R = fsem P Tryz.f350 (fun k => []) [] R w := by kernel_rfl
set_option maxHeartbeats 4000000 in
theorem impl_roundModes_ret {w : World} {R : Value → World → Prop} (h : impl_roundModes w R) : Ret P 350 [] w R := by
  have h2 := impl_roundModes_eq w R
  have h3 : fsem P Tryz.f350 (fun k => []) [] R w := by rw [← h2]; exact h
  exact Ret.of_fsem (fn := Tryz.f350) (car := (fun k => [])) (args := []) (w := w) (R := R) Tryz.func350 rfl h3
def impl_NatEven (a0 : Option Addr) (a1 a2 : Nat) (w : World) (R : Value -> World -> Prop) : Prop :=
 Calls P 180 ⟨[.slice a0 a1 a2]⟩ w fun e wv =>
 ∃ t4, e = .returned (.bool t4) /\
 (t4 = true ->
 ((decide ((((a1 : Nat) : Int) : Int) = 0)) = true ->
 R (.bool true) wv) /\
 ((decide ((((a1 : Nat) : Int) : Int) = 0)) = false ->
 (0 <= (0 : Int) /\ (0 : Int) < (a1 : Nat)) /\ ptrS a0 fun ad => ∃ a3, Loads P 3 (ad.add (0 * 1)) (.int .i64 a3) wv /\ (2 : Int) ≠ 0 /\ ∃ a4 : Int, a4 = Int.tmod a3 2 /\ R (.bool (decide ((a4 : Int) = 0))) wv)) /\
 (t4 = false ->
 R (.bool false) wv)
theorem impl_NatEven_ret {a_p : Option Addr} {a_n : Nat} {a_c : Nat} {w : World} {R : Value → World → Prop} (h : impl_NatEven a_p a_n a_c w R) : Ret P 351 [(.slice a_p a_n a_c)] w R :=
  Ret.of_fsem Tryz.func351 rfl (Eq.mp (show _ = fsem P Tryz.f351 (fun k => []) _ R w from by kernel_rfl) h)
def impl_intsOk (x0 : Bool) (a0 : Option Addr) (a1 a2 : Nat) (y0 : Bool) (a3 : Option Addr) (a4 a5 : Nat) (w : World) (R : Value -> World -> Prop) : Prop :=
 ∀ r wv, New w (.cells ⟨[.bool x0, .slice a0 a1 a2]⟩ 31 (0, 0)) r wv ->
 ∀ a6 a7, New wv (.cells ⟨[.bool y0, .slice a3 a4 a5]⟩ 31 (0, 0)) a6 a7 ->
 ∃ a8 a9 aa ab, Loads P 31 ⟨r, 0, none⟩ (.agg #[.bool a8, .slice a9 aa ab]) a7 /\ Calls P 158 ⟨[.agg #[.bool a8, .slice a9 aa ab]]⟩ a7 fun e ac =>
 ∃ t6, e = .returned (.bool t6) /\
 (t6 = true ->
 ∃ ae af ag ah, Loads P 31 ⟨a6, 0, none⟩ (.agg #[.bool ae, .slice af ag ah]) ac /\ Calls P 158 ⟨[.agg #[.bool ae, .slice af ag ah]]⟩ ac fun ai aj =>
 ∃ t9, ai = .returned (.bool t9) /\
 R (.bool t9) aj) /\
 (t6 = false ->
 R (.bool false) ac)
theorem impl_intsOk_ret {x0 : Bool} {x1_p : Option Addr} {x1_n : Nat} {x1_c : Nat} {y0 : Bool} {y1_p : Option Addr} {y1_n : Nat} {y1_c : Nat} {w : World} {R : Value → World → Prop} (h : impl_intsOk x0 x1_p x1_n x1_c y0 y1_p y1_n y1_c w R) : Ret P 352 [(.agg #[(.bool x0), (.slice x1_p x1_n x1_c)]), (.agg #[(.bool y0), (.slice y1_p y1_n y1_c)])] w R :=
  Ret.of_fsem Tryz.func352 rfl (Eq.mp (show _ = fsem P Tryz.f352 (fun k => []) _ R w from by kernel_rfl) h)
def impl_roundModes_1 (a0 : Bool) (a1 : Int) (a2 : Bool) (w : World) (R : Value -> World -> Prop) : Prop :=
 R (.bool false) w
theorem impl_roundModes_1_ret {a0 : Bool} {a1 : Int} {a2 : Bool} {w : World} {R : Value → World → Prop} (h : impl_roundModes_1 a0 a1 a2 w R) : Ret P 357 [(.bool a0), (.int .i64 a1), (.bool a2)] w R :=
  Ret.of_fsem Tryz.func357 rfl (Eq.mp (show _ = fsem P Tryz.f357 (fun k => []) _ R w from by kernel_rfl) h)
def impl_roundModes_2 (a0 : Bool) (a1 : Int) (a2 : Bool) (w : World) (R : Value -> World -> Prop) : Prop :=
 R (.bool true) w
theorem impl_roundModes_2_ret {a0 : Bool} {a1 : Int} {a2 : Bool} {w : World} {R : Value → World → Prop} (h : impl_roundModes_2 a0 a1 a2 w R) : Ret P 358 [(.bool a0), (.int .i64 a1), (.bool a2)] w R :=
  Ret.of_fsem Tryz.func358 rfl (Eq.mp (show _ = fsem P Tryz.f358 (fun k => []) _ R w from by kernel_rfl) h)
def impl_roundModes_3 (neg : Bool) (u : Int) (u_1 : Bool) (w : World) (R : Value -> World -> Prop) : Prop :=
 R (.bool neg) w
theorem impl_roundModes_3_ret {neg : Bool} {u : Int} {u_1 : Bool} {w : World} {R : Value → World → Prop} (h : impl_roundModes_3 neg u u_1 w R) : Ret P 359 [(.bool neg), (.int .i64 u), (.bool u_1)] w R :=
  Ret.of_fsem Tryz.func359 rfl (Eq.mp (show _ = fsem P Tryz.f359 (fun k => []) _ R w from by kernel_rfl) h)
def impl_roundModes_4 (neg : Bool) (u : Int) (u_1 : Bool) (w : World) (R : Value -> World -> Prop) : Prop :=
 R (.bool (!neg)) w
theorem impl_roundModes_4_ret {neg : Bool} {u : Int} {u_1 : Bool} {w : World} {R : Value → World → Prop} (h : impl_roundModes_4 neg u u_1 w R) : Ret P 360 [(.bool neg), (.int .i64 u), (.bool u_1)] w R :=
  Ret.of_fsem Tryz.func360 rfl (Eq.mp (show _ = fsem P Tryz.f360 (fun k => []) _ R w from by kernel_rfl) h)
def impl_roundModes_5 (u : Bool) (half : Int) (u_1 : Bool) (w : World) (R : Value -> World -> Prop) : Prop :=
 R (.bool (decide ((0 : Int) < half))) w
theorem impl_roundModes_5_ret {u : Bool} {half : Int} {u_1 : Bool} {w : World} {R : Value → World → Prop} (h : impl_roundModes_5 u half u_1 w R) : Ret P 361 [(.bool u), (.int .i64 half), (.bool u_1)] w R :=
  Ret.of_fsem Tryz.func361 rfl (Eq.mp (show _ = fsem P Tryz.f361 (fun k => []) _ R w from by kernel_rfl) h)
def impl_roundModes_6 (u : Bool) (half : Int) (u_1 : Bool) (w : World) (R : Value -> World -> Prop) : Prop :=
 R (.bool (decide ((0 : Int) <= half))) w
theorem impl_roundModes_6_ret {u : Bool} {half : Int} {u_1 : Bool} {w : World} {R : Value → World → Prop} (h : impl_roundModes_6 u half u_1 w R) : Ret P 362 [(.bool u), (.int .i64 half), (.bool u_1)] w R :=
  Ret.of_fsem Tryz.func362 rfl (Eq.mp (show _ = fsem P Tryz.f362 (fun k => []) _ R w from by kernel_rfl) h)
def impl_roundModes_7 (u : Bool) (half : Int) (odd : Bool) (w : World) (R : Value -> World -> Prop) : Prop :=
 ((decide ((0 : Int) < half)) = true ->
 R (.bool true) w) /\
 ((decide ((0 : Int) < half)) = false ->
 ((decide ((half : Int) = 0)) = true ->
 R (.bool odd) w) /\
 ((decide ((half : Int) = 0)) = false ->
 R (.bool false) w))
theorem impl_roundModes_7_ret {u : Bool} {half : Int} {odd : Bool} {w : World} {R : Value → World → Prop} (h : impl_roundModes_7 u half odd w R) : Ret P 363 [(.bool u), (.int .i64 half), (.bool odd)] w R :=
  Ret.of_fsem Tryz.func363 rfl (Eq.mp (show _ = fsem P Tryz.f363 (fun k => []) _ R w from by kernel_rfl) h)
end Go.Proofs.YtfehpaekbbmkcaaGreatDoor

namespace Go.Proofs.YtfehpaekbbmkcaaGreatDoor
open Go Go.Proofs.YtfehpaekbbmkcaaGreatDoor.Sx
set_option linter.unusedVariables false
set_option maxRecDepth 100000
def laws_szMoney (a0 : ByteArray) (a1 : Bool) (a2 : Option Addr) (a3 a4 : Nat) (left : Int) (w : World) (R : Value -> World -> Prop) : Prop :=
 ∀ r wv, New w (.cells ⟨[.string a0, .bool a1, .slice a2 a3 a4]⟩ 26 (0, 0)) r wv ->
 ∃ t7, Loads P 9 ((⟨r, 0, none⟩ : Addr).add 0) (.string t7) wv /\ ∃ t9 : Int, t9 = IntKind.wrap .i64 (left - ((t7.size : Nat) : Int)) /\ ((decide ((t9 : Int) < 0)) = true ->
 R (.int .i64 (-1)) wv) /\
 ((decide ((t9 : Int) < 0)) = false ->
 ∃ a5 a6 a7 a8, Loads P 24 ((⟨r, 0, none⟩ : Addr).add 1) (.agg #[.bool a5, .slice a6 a7 a8]) wv /\ Calls P 65 ⟨[.agg #[.bool a5, .slice a6 a7 a8], .int .i64 t9]⟩ wv fun e a9 =>
 ∃ aa, e = .returned (.int .i64 aa) /\
 ((decide ((aa : Int) < 0)) = true ->
 R (.int .i64 (-1)) a9) /\
 ((decide ((aa : Int) < 0)) = false ->
 R (.int .i64 aa) a9))
theorem laws_szMoney_ret {a0 : ByteArray} {a1 : Bool} {a2_p : Option Addr} {a2_n : Nat} {a2_c : Nat} {left : Int} {w : World} {R : Value → World → Prop} (h : laws_szMoney a0 a1 a2_p a2_n a2_c left w R) : Ret P 11 [(.agg #[(.string a0), (.bool a1), (.slice a2_p a2_n a2_c)]), (.int .i64 left)] w R :=
  Ret.of_fsem Tryz.func11 rfl (Eq.mp (show _ = fsem P Tryz.f11 (fun k => []) _ R w from by kernel_rfl) h)
def laws_toMoney (a0 : ByteArray) (a1 : Bool) (a2 : Option Addr) (a3 a4 : Nat) (w : World) (R : Value -> World -> Prop) : Prop :=
 ∀ r wv, New w (.cells ⟨[.string a0, .bool a1, .slice a2 a3 a4]⟩ 26 (0, 0)) r wv ->
 ∀ a5 a6, New wv (.cells ⟨[.string ByteArray.empty, .bool false, .slice none 0 0]⟩ 33 (0, 0)) a5 a6 ->
 ∀ a7 a8, New a6 (.cells ⟨[.string ByteArray.empty, .bool false, .slice none 0 0]⟩ 33 (0, 0)) a7 a8 ->
 ∃ t5, Loads P 9 ((⟨r, 0, none⟩ : Addr).add 0) (.string t5) a8 /\ ∃ wv_3, Stores P 9 ((⟨a7, 0, none⟩ : Addr).add 0) (.string t5) a8 wv_3 /\
 ∃ a9 aa ab ac, Loads P 24 ((⟨r, 0, none⟩ : Addr).add 1) (.agg #[.bool a9, .slice aa ab ac]) wv_3 /\ Calls P 68 ⟨[.agg #[.bool a9, .slice aa ab ac]]⟩ wv_3 fun e ae =>
 ∃ af ag ah ai, e = .returned (.agg #[.bool af, .slice ag ah ai]) /\
 ∃ wv_5, Stores P 31 ((⟨a7, 0, none⟩ : Addr).add 1) (.agg #[.bool af, .slice ag ah ai]) ae wv_5 /\
 ∃ aj ak al am an, Loads P 33 ⟨a7, 0, none⟩ (.agg #[.string aj, .bool ak, .slice al am an]) wv_5 /\ ∃ wv_6, Stores P 33 ⟨a5, 0, none⟩ (.agg #[.string aj, .bool ak, .slice al am an]) wv_5 wv_6 /\
 ∃ r0 r1 ao ap aq, Loads P 33 ⟨a5, 0, none⟩ (.agg #[.string r0, .bool r1, .slice ao ap aq]) wv_6 /\ R (.agg #[.string r0, .bool r1, .slice ao ap aq]) wv_6
theorem laws_toMoney_ret {a0 : ByteArray} {a1 : Bool} {a2_p : Option Addr} {a2_n : Nat} {a2_c : Nat} {w : World} {R : Value → World → Prop} (h : laws_toMoney a0 a1 a2_p a2_n a2_c w R) : Ret P 13 [(.agg #[(.string a0), (.bool a1), (.slice a2_p a2_n a2_c)])] w R :=
  Ret.of_fsem Tryz.func13 rfl (Eq.mp (show _ = fsem P Tryz.f13 (fun k => []) _ R w from by kernel_rfl) h)
def laws_toIntS (a0 : Option Addr) (a1 a2 : Nat) (w : World) (R : Value -> World -> Prop) : Prop :=
 (0 <= (((a1 : Nat) : Int) : Int) /\ (((a1 : Nat) : Int) : Int) <= ((a1 : Nat) : Int) /\ ((8 : Nat) : Int) * ((a1 : Nat) : Int) <= 281474976710656) /\
 ∀ r wv, New w (.cells ⟨zeroRow (.int .i64 0) (a1 * 1)⟩ 3 (0, 0)) r wv ->
 ∃ (a3 : Int -> World -> Prop) (mu : Int -> World -> Nat), a3 0 wv /\
 ∀ (a4 : Fr) (a5 : World) (i : Int), a3 i a5 ->
 ((decide ((i : Int) < ((a1 : Nat) : Int))) = true ->
 (0 <= (i : Int) /\ (i : Int) < (a1 : Nat)) /\ ptrS a0 fun ad => ∃ a6, Loads P 3 (ad.add (i.toNat * 1)) (.int .i64 a6) a5 /\ (0 <= (i : Int) /\ (i : Int) < (a1 : Nat)) /\ ∃ wv_2, Stores P 3 ((⟨r, 0, none⟩ : Addr).add (i.toNat * 1)) (.int .i64 a6) a5 wv_2 /\
 ∃ a7 : Int, a7 = IntKind.wrap .i64 (i + 1) /\ a3 a7 wv_2 /\ mu a7 wv_2 < mu i a5) /\
 ((decide ((i : Int) < ((a1 : Nat) : Int))) = false ->
 R (.slice (some ⟨r, 0, none⟩) a1 a1) a5)
theorem laws_toIntS_ret {a_p : Option Addr} {a_n : Nat} {a_c : Nat} {w : World} {R : Value → World → Prop} (h : laws_toIntS a_p a_n a_c w R) : Ret P 14 [(.slice a_p a_n a_c)] w R :=
  Ret.of_fsem Tryz.func14 rfl (Eq.mp (show _ = fsem P Tryz.f14 (fun k => cond (Nat.beq k 4) [(4, .one (.int .i64))] ([])) _ R w from by kernel_rfl) h)
def laws_eqMoney (a0 : ByteArray) (a1 : Bool) (a2 : Option Addr) (a3 a4 : Nat) (b0 : ByteArray) (b1 : Bool) (a5 : Option Addr) (a6 a7 : Nat) (w : World) (R : Value -> World -> Prop) : Prop :=
 ∀ r wv, New w (.cells ⟨[.string a0, .bool a1, .slice a2 a3 a4]⟩ 33 (0, 0)) r wv ->
 ∀ a8 a9, New wv (.cells ⟨[.string b0, .bool b1, .slice a5 a6 a7]⟩ 33 (0, 0)) a8 a9 ->
 ∃ t6, Loads P 9 ((⟨r, 0, none⟩ : Addr).add 0) (.string t6) a9 /\ ∃ t8, Loads P 9 ((⟨a8, 0, none⟩ : Addr).add 0) (.string t8) a9 /\ ((decide (t6 ≠ t8)) = true ->
 R (.bool false) a9) /\
 ((decide (t6 ≠ t8)) = false ->
 ∃ aa ab ac ae, Loads P 31 ((⟨r, 0, none⟩ : Addr).add 1) (.agg #[.bool aa, .slice ab ac ae]) a9 /\ ∃ af ag ah ai, Loads P 31 ((⟨a8, 0, none⟩ : Addr).add 1) (.agg #[.bool af, .slice ag ah ai]) a9 /\ Calls P 71 ⟨[.agg #[.bool aa, .slice ab ac ae], .agg #[.bool af, .slice ag ah ai]]⟩ a9 fun e aj =>
 ∃ ak, e = .returned (.bool ak) /\
 ((!ak) = true ->
 R (.bool false) aj) /\
 ((!ak) = false ->
 R (.bool true) aj))
theorem laws_eqMoney_ret {a0 : ByteArray} {a1 : Bool} {a2_p : Option Addr} {a2_n : Nat} {a2_c : Nat} {b0 : ByteArray} {b1 : Bool} {b2_p : Option Addr} {b2_n : Nat} {b2_c : Nat} {w : World} {R : Value → World → Prop} (h : laws_eqMoney a0 a1 a2_p a2_n a2_c b0 b1 b2_p b2_n b2_c w R) : Ret P 17 [(.agg #[(.string a0), (.bool a1), (.slice a2_p a2_n a2_c)]), (.agg #[(.string b0), (.bool b1), (.slice b2_p b2_n b2_c)])] w R :=
  Ret.of_fsem Tryz.func17 rfl (Eq.mp (show _ = fsem P Tryz.f17 (fun k => []) _ R w from by kernel_rfl) h)
def laws_eqIntS (a0 : Option Addr) (a1 a2 : Nat) (a3 : Option Addr) (a4 a5 : Nat) (w : World) (R : Value -> World -> Prop) : Prop :=
 ((decide ((((a1 : Nat) : Int) : Int) ≠ ((a4 : Nat) : Int))) = true ->
 R (.bool false) w) /\
 ((decide ((((a1 : Nat) : Int) : Int) ≠ ((a4 : Nat) : Int))) = false ->
 ∃ (a6 : Int -> World -> Prop) (mu : Int -> World -> Nat), a6 0 w /\
 ∀ (a7 : Fr) (wv : World) (i : Int), a6 i wv ->
 ((decide ((i : Int) < ((a1 : Nat) : Int))) = true ->
 (0 <= (i : Int) /\ (i : Int) < (a1 : Nat)) /\ ptrS a0 fun ad => ∃ a8, (∀ wv_1, Ext wv.drew wv_1 -> Loads P 3 (ad.add (i.toNat * 1)) (.int .i64 a8) wv_1) /\ (0 <= (i : Int) /\ (i : Int) < (a4 : Nat)) /\ ptrS a3 fun a9 => ∃ aa, (∀ wv_2, Ext wv.drew wv_2 -> Loads P 3 (a9.add (i.toNat * 1)) (.int .i64 aa) wv_2) /\ ((decide ((a8 : Int) ≠ aa)) = true ->
 R (.bool false) wv.drew) /\
 ((decide ((a8 : Int) ≠ aa)) = false ->
 ∃ ab : Int, ab = IntKind.wrap .i64 (i + 1) /\ a6 ab wv.drew /\ mu ab wv.drew < mu i wv)) /\
 ((decide ((i : Int) < ((a1 : Nat) : Int))) = false ->
 R (.bool true) wv))
theorem laws_eqIntS_ret {a_p : Option Addr} {a_n : Nat} {a_c : Nat} {b_p : Option Addr} {b_n : Nat} {b_c : Nat} {w : World} {R : Value → World → Prop} (h : laws_eqIntS a_p a_n a_c b_p b_n b_c w R) : Ret P 18 [(.slice a_p a_n a_c), (.slice b_p b_n b_c)] w R :=
  Ret.of_fsem Tryz.func18 rfl (Eq.mp (show _ = fsem P Tryz.f18 (fun k => cond (Nat.beq k 5) [(5, .one (.int .i64))] ([])) _ R w from by kernel_rfl) h)
def laws_markIntS (a0 : Option Addr) (a1 a2 : Nat) (k : Int) (w : World) (R : Value -> World -> Prop) : Prop :=
 ∃ (a3 : Int -> Int -> World -> Prop) (mu : Int -> Int -> World -> Nat), a3 k 0 w /\
 ∀ (a4 : Fr) (wv : World) (k_1 i : Int), a3 k_1 i wv ->
 ((decide ((i : Int) < ((a1 : Nat) : Int))) = true ->
 (0 <= (i : Int) /\ (i : Int) < (a1 : Nat)) /\ ptrS a0 fun ad => ∃ wv_1, Stores P 3 (ad.add (i.toNat * 1)) (.int .i64 k_1) wv wv_1 /\
 ∃ a5 : Int, a5 = IntKind.wrap .i64 (k_1 + 1) /\ ∃ a6 : Int, a6 = IntKind.wrap .i64 (i + 1) /\ a3 a5 a6 wv_1 /\ mu a5 a6 wv_1 < mu k_1 i wv) /\
 ((decide ((i : Int) < ((a1 : Nat) : Int))) = false ->
 R (.int .i64 k_1) wv)
theorem laws_markIntS_ret {a_p : Option Addr} {a_n : Nat} {a_c : Nat} {k : Int} {w : World} {R : Value → World → Prop} (h : laws_markIntS a_p a_n a_c k w R) : Ret P 20 [(.slice a_p a_n a_c), (.int .i64 k)] w R :=
  Ret.of_fsem Tryz.func20 rfl (Eq.mp (show _ = fsem P Tryz.f20 (fun k => cond (Nat.beq k 3) [(1, .one (.int .i64)), (5, .one (.int .i64))] ([])) _ R w from by kernel_rfl) h)
def laws_eqDec (a0 : Bool) (a1 : Option Addr) (a3 a4 : Nat) (a2 : Int) (b0 : Bool) (a5 : Option Addr) (a6 a7 : Nat) (b2 : Int) (w : World) (R : Value -> World -> Prop) : Prop :=
 ∀ r wv, New w (.cells ⟨[.bool a0, .slice a1 a3 a4, .int .i64 a2]⟩ 63 (0, 0)) r wv ->
 ∀ a8 a9, New wv (.cells ⟨[.bool b0, .slice a5 a6 a7, .int .i64 b2]⟩ 63 (0, 0)) a8 a9 ->
 ∃ aa ab ac ae, Loads P 31 ((⟨r, 0, none⟩ : Addr).add 0) (.agg #[.bool aa, .slice ab ac ae]) a9 /\ ∃ af ag ah ai, Loads P 31 ((⟨a8, 0, none⟩ : Addr).add 0) (.agg #[.bool af, .slice ag ah ai]) a9 /\ Calls P 71 ⟨[.agg #[.bool aa, .slice ab ac ae], .agg #[.bool af, .slice ag ah ai]]⟩ a9 fun e aj =>
 ∃ t9, e = .returned (.bool t9) /\
 ((!t9) = true ->
 R (.bool false) aj) /\
 ((!t9) = false ->
 ∃ ak, Loads P 3 ((⟨r, 0, none⟩ : Addr).add 2) (.int .i64 ak) aj /\ ∃ al, Loads P 3 ((⟨a8, 0, none⟩ : Addr).add 2) (.int .i64 al) aj /\ ((decide ((ak : Int) ≠ al)) = true ->
 R (.bool false) aj) /\
 ((decide ((ak : Int) ≠ al)) = false ->
 R (.bool true) aj))
theorem laws_eqDec_ret {a0 : Bool} {a1_p : Option Addr} {a1_n : Nat} {a1_c : Nat} {a2 : Int} {b0 : Bool} {b1_p : Option Addr} {b1_n : Nat} {b1_c : Nat} {b2 : Int} {w : World} {R : Value → World → Prop} (h : laws_eqDec a0 a1_p a1_n a1_c a2 b0 b1_p b1_n b1_c b2 w R) : Ret P 38 [(.agg #[(.bool a0), (.slice a1_p a1_n a1_c), (.int .i64 a2)]), (.agg #[(.bool b0), (.slice b1_p b1_n b1_c), (.int .i64 b2)])] w R :=
  Ret.of_fsem Tryz.func38 rfl (Eq.mp (show _ = fsem P Tryz.f38 (fun k => []) _ R w from by kernel_rfl) h)
def laws_szTaxLineS (a0 : Option Addr) (a1 a2 : Nat) (left : Int) (w : World) (R : Value -> World -> Prop) : Prop :=
 ∃ t9 : Int, t9 = IntKind.wrap .i64 (left - ((a1 : Nat) : Int)) /\ ((decide ((t9 : Int) < 0)) = true ->
 R (.int .i64 (-1)) w) /\
 ((decide ((t9 : Int) < 0)) = false ->
 ∃ (a3 : Int -> Int -> World -> Prop) (mu : Int -> Int -> World -> Nat), a3 t9 0 w /\
 ∀ (a4 : Fr) (wv : World) (left_1 i : Int), a3 left_1 i wv ->
 ((decide ((i : Int) < ((a1 : Nat) : Int))) = true ->
 (0 <= (i : Int) /\ (i : Int) < (a1 : Nat)) /\ ptrS a0 fun ad => ∃ a5 a6 a7 a8 a9 aa ab ac ae af, Loads P 139 (ad.add (i.toNat * 6)) (.agg #[.string a5, .bool a6, .slice a7 a8 a9, .bool aa, .slice ab ac ae, .int .i64 af]) wv /\ Calls P 109 ⟨[.agg #[.string a5, .bool a6, .slice a7 a8 a9, .bool aa, .slice ab ac ae, .int .i64 af], .int .i64 left_1]⟩ wv fun e ag =>
 ∃ ah, e = .returned (.int .i64 ah) /\
 ((decide ((ah : Int) < 0)) = true ->
 R (.int .i64 (-1)) ag) /\
 ((decide ((ah : Int) < 0)) = false ->
 ∃ ai : Int, ai = IntKind.wrap .i64 (i + 1) /\ a3 ah ai ag /\ mu ah ai ag < mu left_1 i wv)) /\
 ((decide ((i : Int) < ((a1 : Nat) : Int))) = false ->
 R (.int .i64 left_1) wv))
theorem laws_szTaxLineS_ret {a_p : Option Addr} {a_n : Nat} {a_c : Nat} {left : Int} {w : World} {R : Value → World → Prop} (h : laws_szTaxLineS a_p a_n a_c left w R) : Ret P 46 [(.slice a_p a_n a_c), (.int .i64 left)] w R :=
  Ret.of_fsem Tryz.func46 rfl (Eq.mp (show _ = fsem P Tryz.f46 (fun k => cond (Nat.beq k 6) [(1, .one (.int .i64)), (5, .one (.int .i64))] ([])) _ R w from by kernel_rfl) h)
def laws_toTaxLineS (a0 : Option Addr) (a1 a2 : Nat) (w : World) (R : Value -> World -> Prop) : Prop :=
 (0 <= (((a1 : Nat) : Int) : Int) /\ (((a1 : Nat) : Int) : Int) <= ((a1 : Nat) : Int) /\ ((88 : Nat) : Int) * ((a1 : Nat) : Int) <= 281474976710656) /\
 ∀ r wv, New w (.cells ⟨zeroRow (.agg #[.string ByteArray.empty, .bool false, .slice none 0 0, .bool false, .slice none 0 0, .int .i64 0]) (a1 * 6)⟩ 141 (0, 0)) r wv ->
 ∃ (a3 : Int -> World -> Prop) (mu : Int -> World -> Nat), a3 0 wv /\
 ∀ (a4 : Fr) (a5 : World) (i : Int), a3 i a5 ->
 ((decide ((i : Int) < ((a1 : Nat) : Int))) = true ->
 (0 <= (i : Int) /\ (i : Int) < (a1 : Nat)) /\ ptrS a0 fun ad => ∃ a6 a7 a8 a9 aa ab ac ae af ag, Loads P 139 (ad.add (i.toNat * 6)) (.agg #[.string a6, .bool a7, .slice a8 a9 aa, .bool ab, .slice ac ae af, .int .i64 ag]) a5 /\ Calls P 115 ⟨[.agg #[.string a6, .bool a7, .slice a8 a9 aa, .bool ab, .slice ac ae af, .int .i64 ag]]⟩ a5 fun e ah =>
 ∃ ai aj ak al am an ao ap aq ar, e = .returned (.agg #[.string ai, .bool aj, .slice ak al am, .bool an, .slice ao ap aq, .int .i64 ar]) /\
 (0 <= (i : Int) /\ (i : Int) < (a1 : Nat)) /\ ∃ wv_3, Stores P 141 ((⟨r, 0, none⟩ : Addr).add (i.toNat * 6)) (.agg #[.string ai, .bool aj, .slice ak al am, .bool an, .slice ao ap aq, .int .i64 ar]) ah wv_3 /\
 ∃ au : Int, au = IntKind.wrap .i64 (i + 1) /\ a3 au wv_3 /\ mu au wv_3 < mu i a5) /\
 ((decide ((i : Int) < ((a1 : Nat) : Int))) = false ->
 R (.slice (some ⟨r, 0, none⟩) a1 a1) a5)
theorem laws_toTaxLineS_ret {a_p : Option Addr} {a_n : Nat} {a_c : Nat} {w : World} {R : Value → World → Prop} (h : laws_toTaxLineS a_p a_n a_c w R) : Ret P 48 [(.slice a_p a_n a_c)] w R :=
  Ret.of_fsem Tryz.func48 rfl (Eq.mp (show _ = fsem P Tryz.f48 (fun k => cond (Nat.beq k 4) [(4, .one (.int .i64))] ([])) _ R w from by kernel_rfl) h)
def laws_eqTaxSumS (a0 : Option Addr) (a1 a2 : Nat) (a3 : Option Addr) (a4 a5 : Nat) (w : World) (R : Value -> World -> Prop) : Prop :=
 ((decide ((((a1 : Nat) : Int) : Int) ≠ ((a4 : Nat) : Int))) = true ->
 R (.bool false) w) /\
 ((decide ((((a1 : Nat) : Int) : Int) ≠ ((a4 : Nat) : Int))) = false ->
 ∃ (a6 : Int -> World -> Prop) (mu : Int -> World -> Nat), a6 0 w /\
 ∀ (a7 : Fr) (wv : World) (i : Int), a6 i wv ->
 ((decide ((i : Int) < ((a1 : Nat) : Int))) = true ->
 (0 <= (i : Int) /\ (i : Int) < (a1 : Nat)) /\ ptrS a0 fun ad => ∃ a8 a9 aa ab ac ae af ag ah ai aj ak al am an, (∀ wv_1, Ext wv.drew wv_1 -> Loads P 145 (ad.add (i.toNat * 9)) (.agg #[.bool a8, .slice a9 aa ab, .int .i64 ac, .string ae, .bool af, .slice ag ah ai, .string aj, .bool ak, .slice al am an]) wv_1) /\ (0 <= (i : Int) /\ (i : Int) < (a4 : Nat)) /\ ptrS a3 fun ao => ∃ ap aq ar au av aw ax ay az b0 b1 b2 b3 b4 b5, (∀ wv_2, Ext wv.drew wv_2 -> Loads P 145 (ao.add (i.toNat * 9)) (.agg #[.bool ap, .slice aq ar au, .int .i64 av, .string aw, .bool ax, .slice ay az b0, .string b1, .bool b2, .slice b3 b4 b5]) wv_2) /\ Calls P 123 ⟨[.agg #[.bool a8, .slice a9 aa ab, .int .i64 ac, .string ae, .bool af, .slice ag ah ai, .string aj, .bool ak, .slice al am an], .agg #[.bool ap, .slice aq ar au, .int .i64 av, .string aw, .bool ax, .slice ay az b0, .string b1, .bool b2, .slice b3 b4 b5]]⟩ wv.drew fun e b6 =>
 ∃ b7, e = .returned (.bool b7) /\
 ((!b7) = true ->
 R (.bool false) b6) /\
 ((!b7) = false ->
 ∃ b8 : Int, b8 = IntKind.wrap .i64 (i + 1) /\ a6 b8 b6 /\ mu b8 b6 < mu i wv)) /\
 ((decide ((i : Int) < ((a1 : Nat) : Int))) = false ->
 R (.bool true) wv))
theorem laws_eqTaxSumS_ret {a_p : Option Addr} {a_n : Nat} {a_c : Nat} {b_p : Option Addr} {b_n : Nat} {b_c : Nat} {w : World} {R : Value → World → Prop} (h : laws_eqTaxSumS a_p a_n a_c b_p b_n b_c w R) : Ret P 50 [(.slice a_p a_n a_c), (.slice b_p b_n b_c)] w R :=
  Ret.of_fsem Tryz.func50 rfl (Eq.mp (show _ = fsem P Tryz.f50 (fun k => cond (Nat.beq k 5) [(5, .one (.int .i64))] ([])) _ R w from by kernel_rfl) h)
def laws_eqTaxLineS (a0 : Option Addr) (a1 a2 : Nat) (a3 : Option Addr) (a4 a5 : Nat) (w : World) (R : Value -> World -> Prop) : Prop :=
 ((decide ((((a1 : Nat) : Int) : Int) ≠ ((a4 : Nat) : Int))) = true ->
 R (.bool false) w) /\
 ((decide ((((a1 : Nat) : Int) : Int) ≠ ((a4 : Nat) : Int))) = false ->
 ∃ (a6 : Int -> World -> Prop) (mu : Int -> World -> Nat), a6 0 w /\
 ∀ (a7 : Fr) (wv : World) (i : Int), a6 i wv ->
 ((decide ((i : Int) < ((a1 : Nat) : Int))) = true ->
 (0 <= (i : Int) /\ (i : Int) < (a1 : Nat)) /\ ptrS a0 fun ad => ∃ a8 a9 aa ab ac ae af ag ah ai, (∀ wv_1, Ext wv.drew wv_1 -> Loads P 141 (ad.add (i.toNat * 6)) (.agg #[.string a8, .bool a9, .slice aa ab ac, .bool ae, .slice af ag ah, .int .i64 ai]) wv_1) /\ (0 <= (i : Int) /\ (i : Int) < (a4 : Nat)) /\ ptrS a3 fun aj => ∃ ak al am an ao ap aq ar au av, (∀ wv_2, Ext wv.drew wv_2 -> Loads P 141 (aj.add (i.toNat * 6)) (.agg #[.string ak, .bool al, .slice am an ao, .bool ap, .slice aq ar au, .int .i64 av]) wv_2) /\ Calls P 124 ⟨[.agg #[.string a8, .bool a9, .slice aa ab ac, .bool ae, .slice af ag ah, .int .i64 ai], .agg #[.string ak, .bool al, .slice am an ao, .bool ap, .slice aq ar au, .int .i64 av]]⟩ wv.drew fun e aw =>
 ∃ ax, e = .returned (.bool ax) /\
 ((!ax) = true ->
 R (.bool false) aw) /\
 ((!ax) = false ->
 ∃ ay : Int, ay = IntKind.wrap .i64 (i + 1) /\ a6 ay aw /\ mu ay aw < mu i wv)) /\
 ((decide ((i : Int) < ((a1 : Nat) : Int))) = false ->
 R (.bool true) wv))
theorem laws_eqTaxLineS_ret {a_p : Option Addr} {a_n : Nat} {a_c : Nat} {b_p : Option Addr} {b_n : Nat} {b_c : Nat} {w : World} {R : Value → World → Prop} (h : laws_eqTaxLineS a_p a_n a_c b_p b_n b_c w R) : Ret P 51 [(.slice a_p a_n a_c), (.slice b_p b_n b_c)] w R :=
  Ret.of_fsem Tryz.func51 rfl (Eq.mp (show _ = fsem P Tryz.f51 (fun k => cond (Nat.beq k 5) [(5, .one (.int .i64))] ([])) _ R w from by kernel_rfl) h)
def laws_markTaxLineS (a0 : Option Addr) (a1 a2 : Nat) (k : Int) (w : World) (R : Value -> World -> Prop) : Prop :=
 ∃ (a3 : Int -> Int -> World -> Prop) (mu : Int -> Int -> World -> Nat), a3 k 0 w /\
 ∀ (a4 : Fr) (wv : World) (k_1 i : Int), a3 k_1 i wv ->
 ((decide ((i : Int) < ((a1 : Nat) : Int))) = true ->
 Calls P 73 ⟨[.int .i64 k_1]⟩ wv fun e a5 =>
 ∃ a6, e = .returned (.string a6) /\
 (0 <= (i : Int) /\ (i : Int) < (a1 : Nat)) /\ ptrS a0 fun ad => ∃ wv_2, Stores P 9 (((ad.add (i.toNat * 6)).add 0).add 0) (.string a6) a5 wv_2 /\
 ∃ a7 : Int, a7 = IntKind.wrap .i64 (k_1 + 1) /\ (3 : Int) ≠ 0 /\ ∃ a8 : Int, a8 = Int.tmod a7 3 /\ (0 <= (i : Int) /\ (i : Int) < (a1 : Nat)) /\ ptrS a0 fun a9 => ∃ wv_3, Stores P 4 ((((a9.add (i.toNat * 6)).add 0).add 1).add 0) (.bool (decide ((a8 : Int) = 0))) wv_2 wv_3 /\
 ∃ aa : Int, aa = IntKind.wrap .i64 (a7 + 1) /\ (0 <= (i : Int) /\ (i : Int) < (a1 : Nat)) /\ ptrS a0 fun ab => ∃ ac ae af, Loads P 22 ((((ab.add (i.toNat * 6)).add 0).add 1).add 1) (.slice ac ae af) wv_3 /\ Calls P 20 ⟨[.slice ac ae af, .int .i64 aa]⟩ wv_3 fun ag ah =>
 ∃ ai, ag = .returned (.int .i64 ai) /\
 (3 : Int) ≠ 0 /\ ∃ aj : Int, aj = Int.tmod ai 3 /\ (0 <= (i : Int) /\ (i : Int) < (a1 : Nat)) /\ ptrS a0 fun ak => ∃ wv_5, Stores P 4 ((((ak.add (i.toNat * 6)).add 3).add 0).add 0) (.bool (decide ((aj : Int) = 0))) ah wv_5 /\
 ∃ al : Int, al = IntKind.wrap .i64 (ai + 1) /\ (0 <= (i : Int) /\ (i : Int) < (a1 : Nat)) /\ ptrS a0 fun am => ∃ an ao ap, Loads P 22 ((((am.add (i.toNat * 6)).add 3).add 0).add 1) (.slice an ao ap) wv_5 /\ Calls P 20 ⟨[.slice an ao ap, .int .i64 al]⟩ wv_5 fun aq ar =>
 ∃ au, aq = .returned (.int .i64 au) /\
 (0 <= (i : Int) /\ (i : Int) < (a1 : Nat)) /\ ptrS a0 fun av => ∃ wv_7, Stores P 3 (((av.add (i.toNat * 6)).add 3).add 2) (.int .i64 au) ar wv_7 /\
 ∃ aw : Int, aw = IntKind.wrap .i64 (au + 1) /\ ∃ ax : Int, ax = IntKind.wrap .i64 (i + 1) /\ a3 aw ax wv_7 /\ mu aw ax wv_7 < mu k_1 i wv) /\
 ((decide ((i : Int) < ((a1 : Nat) : Int))) = false ->
 R (.int .i64 k_1) wv)
theorem laws_markTaxLineS_ret {a_p : Option Addr} {a_n : Nat} {a_c : Nat} {k : Int} {w : World} {R : Value → World → Prop} (h : laws_markTaxLineS a_p a_n a_c k w R) : Ret P 52 [(.slice a_p a_n a_c), (.int .i64 k)] w R :=
  Ret.of_fsem Tryz.func52 rfl (Eq.mp (show _ = fsem P Tryz.f52 (fun k => cond (Nat.beq k 3) [(1, .one (.int .i64)), (5, .one (.int .i64))] ([])) _ R w from by kernel_rfl) h)
def laws_markTaxSumS (a0 : Option Addr) (a1 a2 : Nat) (k : Int) (w : World) (R : Value -> World -> Prop) : Prop :=
 ∃ (a3 : Int -> Int -> World -> Prop) (mu : Int -> Int -> World -> Nat), a3 k 0 w /\
 ∀ (a4 : Fr) (wv : World) (k_1 i : Int), a3 k_1 i wv ->
 ((decide ((i : Int) < ((a1 : Nat) : Int))) = true ->
 (3 : Int) ≠ 0 /\ ∃ a5 : Int, a5 = Int.tmod k_1 3 /\ (0 <= (i : Int) /\ (i : Int) < (a1 : Nat)) /\ ptrS a0 fun ad => ∃ wv_1, Stores P 4 ((((ad.add (i.toNat * 9)).add 0).add 0).add 0) (.bool (decide ((a5 : Int) = 0))) wv wv_1 /\
 ∃ a6 : Int, a6 = IntKind.wrap .i64 (k_1 + 1) /\ (0 <= (i : Int) /\ (i : Int) < (a1 : Nat)) /\ ptrS a0 fun a7 => ∃ a8 a9 aa, Loads P 22 ((((a7.add (i.toNat * 9)).add 0).add 0).add 1) (.slice a8 a9 aa) wv_1 /\ Calls P 20 ⟨[.slice a8 a9 aa, .int .i64 a6]⟩ wv_1 fun e ab =>
 ∃ ac, e = .returned (.int .i64 ac) /\
 (0 <= (i : Int) /\ (i : Int) < (a1 : Nat)) /\ ptrS a0 fun ae => ∃ wv_3, Stores P 3 (((ae.add (i.toNat * 9)).add 0).add 2) (.int .i64 ac) ab wv_3 /\
 ∃ af : Int, af = IntKind.wrap .i64 (ac + 1) /\ Calls P 73 ⟨[.int .i64 af]⟩ wv_3 fun ag ah =>
 ∃ ai, ag = .returned (.string ai) /\
 (0 <= (i : Int) /\ (i : Int) < (a1 : Nat)) /\ ptrS a0 fun aj => ∃ wv_5, Stores P 9 (((aj.add (i.toNat * 9)).add 3).add 0) (.string ai) ah wv_5 /\
 ∃ ak : Int, ak = IntKind.wrap .i64 (af + 1) /\ (3 : Int) ≠ 0 /\ ∃ al : Int, al = Int.tmod ak 3 /\ (0 <= (i : Int) /\ (i : Int) < (a1 : Nat)) /\ ptrS a0 fun am => ∃ wv_6, Stores P 4 ((((am.add (i.toNat * 9)).add 3).add 1).add 0) (.bool (decide ((al : Int) = 0))) wv_5 wv_6 /\
 ∃ an : Int, an = IntKind.wrap .i64 (ak + 1) /\ (0 <= (i : Int) /\ (i : Int) < (a1 : Nat)) /\ ptrS a0 fun ao => ∃ ap aq ar, Loads P 22 ((((ao.add (i.toNat * 9)).add 3).add 1).add 1) (.slice ap aq ar) wv_6 /\ Calls P 20 ⟨[.slice ap aq ar, .int .i64 an]⟩ wv_6 fun au av =>
 ∃ aw, au = .returned (.int .i64 aw) /\
 Calls P 73 ⟨[.int .i64 aw]⟩ av fun ax ay =>
 ∃ az, ax = .returned (.string az) /\
 (0 <= (i : Int) /\ (i : Int) < (a1 : Nat)) /\ ptrS a0 fun b0 => ∃ wv_9, Stores P 9 (((b0.add (i.toNat * 9)).add 6).add 0) (.string az) ay wv_9 /\
 ∃ b1 : Int, b1 = IntKind.wrap .i64 (aw + 1) /\ (3 : Int) ≠ 0 /\ ∃ b2 : Int, b2 = Int.tmod b1 3 /\ (0 <= (i : Int) /\ (i : Int) < (a1 : Nat)) /\ ptrS a0 fun b3 => ∃ wv_10, Stores P 4 ((((b3.add (i.toNat * 9)).add 6).add 1).add 0) (.bool (decide ((b2 : Int) = 0))) wv_9 wv_10 /\
 ∃ b4 : Int, b4 = IntKind.wrap .i64 (b1 + 1) /\ (0 <= (i : Int) /\ (i : Int) < (a1 : Nat)) /\ ptrS a0 fun b5 => ∃ b6 b7 b8, Loads P 22 ((((b5.add (i.toNat * 9)).add 6).add 1).add 1) (.slice b6 b7 b8) wv_10 /\ Calls P 20 ⟨[.slice b6 b7 b8, .int .i64 b4]⟩ wv_10 fun b9 ba =>
 ∃ bb, b9 = .returned (.int .i64 bb) /\
 ∃ bc : Int, bc = IntKind.wrap .i64 (i + 1) /\ a3 bb bc ba /\ mu bb bc ba < mu k_1 i wv) /\
 ((decide ((i : Int) < ((a1 : Nat) : Int))) = false ->
 R (.int .i64 k_1) wv)
theorem laws_markTaxSumS_ret {a_p : Option Addr} {a_n : Nat} {a_c : Nat} {k : Int} {w : World} {R : Value → World → Prop} (h : laws_markTaxSumS a_p a_n a_c k w R) : Ret P 53 [(.slice a_p a_n a_c), (.int .i64 k)] w R :=
  Ret.of_fsem Tryz.func53 rfl (Eq.mp (show _ = fsem P Tryz.f53 (fun k => cond (Nat.beq k 3) [(1, .one (.int .i64)), (5, .one (.int .i64))] ([])) _ R w from by kernel_rfl) h)
def laws_heldTaxSumS (a0 : Option Addr) (a1 a2 : Nat) (k : Int) (w : World) (R : Value -> World -> Prop) : Prop :=
 ∃ (a3 : Int -> Int -> World -> Prop) (mu : Int -> Int -> World -> Nat), a3 k 0 w /\
 ∀ (a4 : Fr) (wv : World) (k_1 i : Int), a3 k_1 i wv ->
 ((decide ((i : Int) < ((a1 : Nat) : Int))) = true ->
 (0 <= (i : Int) /\ (i : Int) < (a1 : Nat)) /\ ptrS a0 fun ad => ∃ a5, Loads P 4 ((((ad.add (i.toNat * 9)).add 0).add 0).add 0) (.bool a5) wv /\ (3 : Int) ≠ 0 /\ ∃ a6 : Int, a6 = Int.tmod k_1 3 /\ ((!(a5 == (decide ((a6 : Int) = 0)))) = true ->
 R (.int .i64 (-1)) wv) /\
 ((!(a5 == (decide ((a6 : Int) = 0)))) = false ->
 ∃ a7 : Int, a7 = IntKind.wrap .i64 (k_1 + 1) /\ (0 <= (i : Int) /\ (i : Int) < (a1 : Nat)) /\ ptrS a0 fun a8 => ∃ a9 aa ab, Loads P 22 ((((a8.add (i.toNat * 9)).add 0).add 0).add 1) (.slice a9 aa ab) wv /\ Calls P 74 ⟨[.slice a9 aa ab, .int .i64 a7]⟩ wv fun e ac =>
 ∃ ae, e = .returned (.int .i64 ae) /\
 ((decide ((ae : Int) < 0)) = true ->
 R (.int .i64 (-1)) ac) /\
 ((decide ((ae : Int) < 0)) = false ->
 (0 <= (i : Int) /\ (i : Int) < (a1 : Nat)) /\ ptrS a0 fun af => ∃ ag, Loads P 3 (((af.add (i.toNat * 9)).add 0).add 2) (.int .i64 ag) ac /\ ((decide ((ag : Int) ≠ ae)) = true ->
 R (.int .i64 (-1)) ac) /\
 ((decide ((ag : Int) ≠ ae)) = false ->
 ∃ ah : Int, ah = IntKind.wrap .i64 (ae + 1) /\ (0 <= (i : Int) /\ (i : Int) < (a1 : Nat)) /\ ptrS a0 fun ai => ∃ aj, (∀ wv_2, Ext ac.drew wv_2 -> Loads P 9 (((ai.add (i.toNat * 9)).add 3).add 0) (.string aj) wv_2) /\ Calls P 73 ⟨[.int .i64 ah]⟩ ac.drew fun ak al =>
 ∃ am, ak = .returned (.string am) /\
 Ext ac.drew al /\ ((decide (aj ≠ am)) = true ->
 R (.int .i64 (-1)) al) /\
 ((decide (aj ≠ am)) = false ->
 ∃ an : Int, an = IntKind.wrap .i64 (ah + 1) /\ (0 <= (i : Int) /\ (i : Int) < (a1 : Nat)) /\ ptrS a0 fun ao => ∃ ap, Loads P 4 ((((ao.add (i.toNat * 9)).add 3).add 1).add 0) (.bool ap) al /\ (3 : Int) ≠ 0 /\ ∃ aq : Int, aq = Int.tmod an 3 /\ ((!(ap == (decide ((aq : Int) = 0)))) = true ->
 R (.int .i64 (-1)) al) /\
 ((!(ap == (decide ((aq : Int) = 0)))) = false ->
 ∃ ar : Int, ar = IntKind.wrap .i64 (an + 1) /\ (0 <= (i : Int) /\ (i : Int) < (a1 : Nat)) /\ ptrS a0 fun au => ∃ av aw ax, Loads P 22 ((((au.add (i.toNat * 9)).add 3).add 1).add 1) (.slice av aw ax) al /\ Calls P 74 ⟨[.slice av aw ax, .int .i64 ar]⟩ al fun ay az =>
 ∃ b0, ay = .returned (.int .i64 b0) /\
 ((decide ((b0 : Int) < 0)) = true ->
 R (.int .i64 (-1)) az) /\
 ((decide ((b0 : Int) < 0)) = false ->
 (0 <= (i : Int) /\ (i : Int) < (a1 : Nat)) /\ ptrS a0 fun b1 => ∃ b2, (∀ wv_5, Ext az.drew wv_5 -> Loads P 9 (((b1.add (i.toNat * 9)).add 6).add 0) (.string b2) wv_5) /\ Calls P 73 ⟨[.int .i64 b0]⟩ az.drew fun b3 b4 =>
 ∃ b5, b3 = .returned (.string b5) /\
 Ext az.drew b4 /\ ((decide (b2 ≠ b5)) = true ->
 R (.int .i64 (-1)) b4) /\
 ((decide (b2 ≠ b5)) = false ->
 ∃ b6 : Int, b6 = IntKind.wrap .i64 (b0 + 1) /\ (0 <= (i : Int) /\ (i : Int) < (a1 : Nat)) /\ ptrS a0 fun b7 => ∃ b8, Loads P 4 ((((b7.add (i.toNat * 9)).add 6).add 1).add 0) (.bool b8) b4 /\ (3 : Int) ≠ 0 /\ ∃ b9 : Int, b9 = Int.tmod b6 3 /\ ((!(b8 == (decide ((b9 : Int) = 0)))) = true ->
 R (.int .i64 (-1)) b4) /\
 ((!(b8 == (decide ((b9 : Int) = 0)))) = false ->
 ∃ ba : Int, ba = IntKind.wrap .i64 (b6 + 1) /\ (0 <= (i : Int) /\ (i : Int) < (a1 : Nat)) /\ ptrS a0 fun bb => ∃ bc bd be, Loads P 22 ((((bb.add (i.toNat * 9)).add 6).add 1).add 1) (.slice bc bd be) b4 /\ Calls P 74 ⟨[.slice bc bd be, .int .i64 ba]⟩ b4 fun bf bg =>
 ∃ bh, bf = .returned (.int .i64 bh) /\
 ((decide ((bh : Int) < 0)) = true ->
 R (.int .i64 (-1)) bg) /\
 ((decide ((bh : Int) < 0)) = false ->
 ∃ bi : Int, bi = IntKind.wrap .i64 (i + 1) /\ a3 bh bi bg /\ mu bh bi bg < mu k_1 i wv)))))))))) /\
 ((decide ((i : Int) < ((a1 : Nat) : Int))) = false ->
 R (.int .i64 k_1) wv)
theorem laws_heldTaxSumS_ret {a_p : Option Addr} {a_n : Nat} {a_c : Nat} {k : Int} {w : World} {R : Value → World → Prop} (h : laws_heldTaxSumS a_p a_n a_c k w R) : Ret P 54 [(.slice a_p a_n a_c), (.int .i64 k)] w R :=
  Ret.of_fsem Tryz.func54 rfl (Eq.mp (show _ = fsem P Tryz.f54 (fun k => cond (Nat.beq k 3) [(1, .one (.int .i64)), (5, .one (.int .i64))] ([])) _ R w from by kernel_rfl) h)
def laws_szDec (a0 : Bool) (a1 : Option Addr) (a3 a4 : Nat) (a2 left : Int) (w : World) (R : Value -> World -> Prop) : Prop :=
 ∀ r wv, New w (.cells ⟨[.bool a0, .slice a1 a3 a4, .int .i64 a2]⟩ 87 (0, 0)) r wv ->
 ∃ a5 a6 a7 a8, Loads P 24 ((⟨r, 0, none⟩ : Addr).add 0) (.agg #[.bool a5, .slice a6 a7 a8]) wv /\ Calls P 65 ⟨[.agg #[.bool a5, .slice a6 a7 a8], .int .i64 left]⟩ wv fun e a9 =>
 ∃ t8, e = .returned (.int .i64 t8) /\
 ((decide ((t8 : Int) < 0)) = true ->
 R (.int .i64 (-1)) a9) /\
 ((decide ((t8 : Int) < 0)) = false ->
 R (.int .i64 t8) a9)
theorem laws_szDec_ret {a0 : Bool} {a1_p : Option Addr} {a1_n : Nat} {a1_c : Nat} {a2 : Int} {left : Int} {w : World} {R : Value → World → Prop} (h : laws_szDec a0 a1_p a1_n a1_c a2 left w R) : Ret P 55 [(.agg #[(.bool a0), (.slice a1_p a1_n a1_c), (.int .i64 a2)]), (.int .i64 left)] w R :=
  Ret.of_fsem Tryz.func55 rfl (Eq.mp (show _ = fsem P Tryz.f55 (fun k => []) _ R w from by kernel_rfl) h)
def laws_toDec (a0 : Bool) (a1 : Option Addr) (a3 a4 : Nat) (a2 : Int) (w : World) (R : Value -> World -> Prop) : Prop :=
 ∀ r wv, New w (.cells ⟨[.bool a0, .slice a1 a3 a4, .int .i64 a2]⟩ 87 (0, 0)) r wv ->
 ∀ a5 a6, New wv (.cells ⟨[.bool false, .slice none 0 0, .int .i64 0]⟩ 63 (0, 0)) a5 a6 ->
 ∀ a7 a8, New a6 (.cells ⟨[.bool false, .slice none 0 0, .int .i64 0]⟩ 63 (0, 0)) a7 a8 ->
 ∃ a9 aa ab ac, Loads P 24 ((⟨r, 0, none⟩ : Addr).add 0) (.agg #[.bool a9, .slice aa ab ac]) a8 /\ Calls P 68 ⟨[.agg #[.bool a9, .slice aa ab ac]]⟩ a8 fun e ae =>
 ∃ af ag ah ai, e = .returned (.agg #[.bool af, .slice ag ah ai]) /\
 ∃ wv_4, Stores P 31 ((⟨a7, 0, none⟩ : Addr).add 0) (.agg #[.bool af, .slice ag ah ai]) ae wv_4 /\
 ∃ t9, Loads P 3 ((⟨r, 0, none⟩ : Addr).add 2) (.int .i64 t9) wv_4 /\ ∃ wv_5, Stores P 3 ((⟨a7, 0, none⟩ : Addr).add 2) (.int .i64 t9) wv_4 wv_5 /\
 ∃ aj ak al am an, Loads P 63 ⟨a7, 0, none⟩ (.agg #[.bool aj, .slice ak al am, .int .i64 an]) wv_5 /\ ∃ wv_6, Stores P 63 ⟨a5, 0, none⟩ (.agg #[.bool aj, .slice ak al am, .int .i64 an]) wv_5 wv_6 /\
 ∃ r0 ao ap aq r2, Loads P 63 ⟨a5, 0, none⟩ (.agg #[.bool r0, .slice ao ap aq, .int .i64 r2]) wv_6 /\ R (.agg #[.bool r0, .slice ao ap aq, .int .i64 r2]) wv_6
theorem laws_toDec_ret {a0 : Bool} {a1_p : Option Addr} {a1_n : Nat} {a1_c : Nat} {a2 : Int} {w : World} {R : Value → World → Prop} (h : laws_toDec a0 a1_p a1_n a1_c a2 w R) : Ret P 57 [(.agg #[(.bool a0), (.slice a1_p a1_n a1_c), (.int .i64 a2)])] w R :=
  Ret.of_fsem Tryz.func57 rfl (Eq.mp (show _ = fsem P Tryz.f57 (fun k => []) _ R w from by kernel_rfl) h)
def laws_szSigned (a0 : Bool) (a1 : Option Addr) (a2 a3 : Nat) (left : Int) (w : World) (R : Value -> World -> Prop) : Prop :=
 ∀ r wv, New w (.cells ⟨[.bool a0, .slice a1 a2 a3]⟩ 24 (0, 0)) r wv ->
 ∃ a4 a5 a6, Loads P 22 ((⟨r, 0, none⟩ : Addr).add 1) (.slice a4 a5 a6) wv /\ Calls P 76 ⟨[.slice a4 a5 a6, .int .i64 left]⟩ wv fun e a7 =>
 ∃ t8, e = .returned (.int .i64 t8) /\
 ((decide ((t8 : Int) < 0)) = true ->
 R (.int .i64 (-1)) a7) /\
 ((decide ((t8 : Int) < 0)) = false ->
 R (.int .i64 t8) a7)
theorem laws_szSigned_ret {a0 : Bool} {a1_p : Option Addr} {a1_n : Nat} {a1_c : Nat} {left : Int} {w : World} {R : Value → World → Prop} (h : laws_szSigned a0 a1_p a1_n a1_c left w R) : Ret P 65 [(.agg #[(.bool a0), (.slice a1_p a1_n a1_c)]), (.int .i64 left)] w R :=
  Ret.of_fsem Tryz.func65 rfl (Eq.mp (show _ = fsem P Tryz.f65 (fun k => []) _ R w from by kernel_rfl) h)
def laws_toSigned (a0 : Bool) (a1 : Option Addr) (a2 a3 : Nat) (w : World) (R : Value -> World -> Prop) : Prop :=
 ∀ r wv, New w (.cells ⟨[.bool a0, .slice a1 a2 a3]⟩ 24 (0, 0)) r wv ->
 ∀ a4 a5, New wv (.cells ⟨[.bool false, .slice none 0 0]⟩ 31 (0, 0)) a4 a5 ->
 ∀ a6 a7, New a5 (.cells ⟨[.bool false, .slice none 0 0]⟩ 31 (0, 0)) a6 a7 ->
 ∃ t5, Loads P 4 ((⟨r, 0, none⟩ : Addr).add 0) (.bool t5) a7 /\ ∃ wv_3, Stores P 4 ((⟨a6, 0, none⟩ : Addr).add 0) (.bool t5) a7 wv_3 /\
 ∃ a8 a9 aa, Loads P 22 ((⟨r, 0, none⟩ : Addr).add 1) (.slice a8 a9 aa) wv_3 /\ Calls P 14 ⟨[.slice a8 a9 aa]⟩ wv_3 fun e ab =>
 ∃ ac ae af, e = .returned (.slice ac ae af) /\
 ∃ wv_5, Stores P 22 ((⟨a6, 0, none⟩ : Addr).add 1) (.slice ac ae af) ab wv_5 /\
 ∃ ag ah ai aj, Loads P 31 ⟨a6, 0, none⟩ (.agg #[.bool ag, .slice ah ai aj]) wv_5 /\ ∃ wv_6, Stores P 31 ⟨a4, 0, none⟩ (.agg #[.bool ag, .slice ah ai aj]) wv_5 wv_6 /\
 ∃ r0 ak al am, Loads P 31 ⟨a4, 0, none⟩ (.agg #[.bool r0, .slice ak al am]) wv_6 /\ R (.agg #[.bool r0, .slice ak al am]) wv_6
theorem laws_toSigned_ret {a0 : Bool} {a1_p : Option Addr} {a1_n : Nat} {a1_c : Nat} {w : World} {R : Value → World → Prop} (h : laws_toSigned a0 a1_p a1_n a1_c w R) : Ret P 68 [(.agg #[(.bool a0), (.slice a1_p a1_n a1_c)])] w R :=
  Ret.of_fsem Tryz.func68 rfl (Eq.mp (show _ = fsem P Tryz.f68 (fun k => []) _ R w from by kernel_rfl) h)
def laws_eqSigned (a0 : Bool) (a1 : Option Addr) (a2 a3 : Nat) (b0 : Bool) (a4 : Option Addr) (a5 a6 : Nat) (w : World) (R : Value -> World -> Prop) : Prop :=
 ∀ r wv, New w (.cells ⟨[.bool a0, .slice a1 a2 a3]⟩ 31 (0, 0)) r wv ->
 ∀ a7 a8, New wv (.cells ⟨[.bool b0, .slice a4 a5 a6]⟩ 31 (0, 0)) a7 a8 ->
 ∃ t6, Loads P 4 ((⟨r, 0, none⟩ : Addr).add 0) (.bool t6) a8 /\ ∃ t8, Loads P 4 ((⟨a7, 0, none⟩ : Addr).add 0) (.bool t8) a8 /\ ((!(t6 == t8)) = true ->
 R (.bool false) a8) /\
 ((!(t6 == t8)) = false ->
 ∃ a9 aa ab, Loads P 22 ((⟨r, 0, none⟩ : Addr).add 1) (.slice a9 aa ab) a8 /\ ∃ ac ae af, Loads P 22 ((⟨a7, 0, none⟩ : Addr).add 1) (.slice ac ae af) a8 /\ Calls P 18 ⟨[.slice a9 aa ab, .slice ac ae af]⟩ a8 fun e ag =>
 ∃ ah, e = .returned (.bool ah) /\
 ((!ah) = true ->
 R (.bool false) ag) /\
 ((!ah) = false ->
 R (.bool true) ag))
theorem laws_eqSigned_ret {a0 : Bool} {a1_p : Option Addr} {a1_n : Nat} {a1_c : Nat} {b0 : Bool} {b1_p : Option Addr} {b1_n : Nat} {b1_c : Nat} {w : World} {R : Value → World → Prop} (h : laws_eqSigned a0 a1_p a1_n a1_c b0 b1_p b1_n b1_c w R) : Ret P 71 [(.agg #[(.bool a0), (.slice a1_p a1_n a1_c)]), (.agg #[(.bool b0), (.slice b1_p b1_n b1_c)])] w R :=
  Ret.of_fsem Tryz.func71 rfl (Eq.mp (show _ = fsem P Tryz.f71 (fun k => []) _ R w from by kernel_rfl) h)
def laws_markText (k : Int) (w : World) (R : Value -> World -> Prop) : Prop :=
 ((decide ((k : Int) <= 0)) = true ->
 R (.string (S [109, 48])) w) /\
 ((decide ((k : Int) <= 0)) = false ->
 ∃ (a0 : Int -> ByteArray -> World -> Prop) (mu : Int -> ByteArray -> World -> Nat), a0 k (S []) w /\
 ∀ (a1 : Fr) (wv : World) (k_1 : Int) (out : ByteArray), a0 k_1 out wv ->
 ((decide ((0 : Int) < k_1)) = true ->
 (10 : Int) ≠ 0 /\ ∃ t9 : Int, t9 = Int.tmod k_1 10 /\ ∃ a2 : Int, a2 = IntKind.wrap .i64 (48 + t9) /\ ∃ a3 : Int, a3 = IntKind.wrap .u8 a2 /\ ∀ r a4, New wv (.cells ⟨[.int .u8 a3]⟩ 5 (0, 0)) r a4 ->
 ∃ a5, Convs P 204 9 (.slice (some ⟨r, 0, none⟩) 1 1) (.string a5) a4 /\ a5.size + out.size <= 9223372036854775807 /\ ∃ a6 : ByteArray, a6 = a5 ++ out /\ (10 : Int) ≠ 0 /\ ∃ a7 : Int, a7 = IntKind.wrap .i64 (Int.tdiv k_1 10) /\ a0 a7 a6 a4 /\ mu a7 a6 a4 < mu k_1 out wv) /\
 ((decide ((0 : Int) < k_1)) = false ->
 (S [109]).size + out.size <= 9223372036854775807 /\ ∃ a8 : ByteArray, a8 = (S [109]) ++ out /\ R (.string a8) wv))
theorem laws_markText_ret {k : Int} {w : World} {R : Value → World → Prop} (h : laws_markText k w R) : Ret P 73 [(.int .i64 k)] w R :=
  Ret.of_fsem Tryz.func73 rfl (Eq.mp (show _ = fsem P Tryz.f73 (fun k => cond (Nat.beq k 5) [(0, .one (.int .i64)), (3, .one .str)] ([])) _ R w from by kernel_rfl) h)
def laws_heldIntS (a0 : Option Addr) (a1 a2 : Nat) (k : Int) (w : World) (R : Value -> World -> Prop) : Prop :=
 ∃ (a3 : Int -> Int -> World -> Prop) (mu : Int -> Int -> World -> Nat), a3 k 0 w /\
 ∀ (a4 : Fr) (wv : World) (k_1 i : Int), a3 k_1 i wv ->
 ((decide ((i : Int) < ((a1 : Nat) : Int))) = true ->
 (0 <= (i : Int) /\ (i : Int) < (a1 : Nat)) /\ ptrS a0 fun ad => ∃ a5, Loads P 3 (ad.add (i.toNat * 1)) (.int .i64 a5) wv /\ ((decide ((a5 : Int) ≠ k_1)) = true ->
 R (.int .i64 (-1)) wv) /\
 ((decide ((a5 : Int) ≠ k_1)) = false ->
 ∃ a6 : Int, a6 = IntKind.wrap .i64 (k_1 + 1) /\ ∃ a7 : Int, a7 = IntKind.wrap .i64 (i + 1) /\ a3 a6 a7 wv /\ mu a6 a7 wv < mu k_1 i wv)) /\
 ((decide ((i : Int) < ((a1 : Nat) : Int))) = false ->
 R (.int .i64 k_1) wv)
theorem laws_heldIntS_ret {a_p : Option Addr} {a_n : Nat} {a_c : Nat} {k : Int} {w : World} {R : Value → World → Prop} (h : laws_heldIntS a_p a_n a_c k w R) : Ret P 74 [(.slice a_p a_n a_c), (.int .i64 k)] w R :=
  Ret.of_fsem Tryz.func74 rfl (Eq.mp (show _ = fsem P Tryz.f74 (fun k => cond (Nat.beq k 3) [(1, .one (.int .i64)), (5, .one (.int .i64))] ([])) _ R w from by kernel_rfl) h)
def laws_szIntS (a0 : Option Addr) (a1 a2 : Nat) (left : Int) (w : World) (R : Value -> World -> Prop) : Prop :=
 ∃ t8 : Int, t8 = IntKind.wrap .i64 (left - ((a1 : Nat) : Int)) /\ ((decide ((t8 : Int) < 0)) = true ->
 R (.int .i64 (-1)) w) /\
 ((decide ((t8 : Int) < 0)) = false ->
 R (.int .i64 t8) w)
theorem laws_szIntS_ret {a_p : Option Addr} {a_n : Nat} {a_c : Nat} {left : Int} {w : World} {R : Value → World → Prop} (h : laws_szIntS a_p a_n a_c left w R) : Ret P 76 [(.slice a_p a_n a_c), (.int .i64 left)] w R :=
  Ret.of_fsem Tryz.func76 rfl (Eq.mp (show _ = fsem P Tryz.f76 (fun k => []) _ R w from by kernel_rfl) h)
def laws_szTaxLine (a0 : ByteArray) (a1 : Bool) (a2 : Option Addr) (a4 a6 : Nat) (a3 : Bool) (a7 : Option Addr) (a8 a9 : Nat) (a5 left : Int) (w : World) (R : Value -> World -> Prop) : Prop :=
 ∀ r wv, New w (.cells ⟨[.string a0, .bool a1, .slice a2 a4 a6, .bool a3, .slice a7 a8 a9, .int .i64 a5]⟩ 139 (0, 0)) r wv ->
 ∃ aa ab ac ae af, Loads P 26 ((⟨r, 0, none⟩ : Addr).add 0) (.agg #[.string aa, .bool ab, .slice ac ae af]) wv /\ Calls P 11 ⟨[.agg #[.string aa, .bool ab, .slice ac ae af], .int .i64 left]⟩ wv fun e ag =>
 ∃ t8, e = .returned (.int .i64 t8) /\
 ((decide ((t8 : Int) < 0)) = true ->
 R (.int .i64 (-1)) ag) /\
 ((decide ((t8 : Int) < 0)) = false ->
 ∃ ah ai aj ak al, Loads P 87 ((⟨r, 0, none⟩ : Addr).add 3) (.agg #[.bool ah, .slice ai aj ak, .int .i64 al]) ag /\ Calls P 55 ⟨[.agg #[.bool ah, .slice ai aj ak, .int .i64 al], .int .i64 t8]⟩ ag fun am an =>
 ∃ ao, am = .returned (.int .i64 ao) /\
 ((decide ((ao : Int) < 0)) = true ->
 R (.int .i64 (-1)) an) /\
 ((decide ((ao : Int) < 0)) = false ->
 R (.int .i64 ao) an))
theorem laws_szTaxLine_ret {a0 : ByteArray} {a1 : Bool} {a2_p : Option Addr} {a2_n : Nat} {a2_c : Nat} {a3 : Bool} {a4_p : Option Addr} {a4_n : Nat} {a4_c : Nat} {a5 : Int} {left : Int} {w : World} {R : Value → World → Prop} (h : laws_szTaxLine a0 a1 a2_p a2_n a2_c a3 a4_p a4_n a4_c a5 left w R) : Ret P 109 [(.agg #[(.string a0), (.bool a1), (.slice a2_p a2_n a2_c), (.bool a3), (.slice a4_p a4_n a4_c), (.int .i64 a5)]), (.int .i64 left)] w R :=
  Ret.of_fsem Tryz.func109 rfl (Eq.mp (show _ = fsem P Tryz.f109 (fun k => []) _ R w from by kernel_rfl) h)
def laws_toTaxLine (a0 : ByteArray) (a1 : Bool) (a2 : Option Addr) (a4 a6 : Nat) (a3 : Bool) (a7 : Option Addr) (a8 a9 : Nat) (a5 : Int) (w : World) (R : Value -> World -> Prop) : Prop :=
 ∀ r wv, New w (.cells ⟨[.string a0, .bool a1, .slice a2 a4 a6, .bool a3, .slice a7 a8 a9, .int .i64 a5]⟩ 139 (0, 0)) r wv ->
 ∀ aa ab, New wv (.cells ⟨[.string ByteArray.empty, .bool false, .slice none 0 0, .bool false, .slice none 0 0, .int .i64 0]⟩ 141 (0, 0)) aa ab ->
 ∀ ac ae, New ab (.cells ⟨[.string ByteArray.empty, .bool false, .slice none 0 0, .bool false, .slice none 0 0, .int .i64 0]⟩ 141 (0, 0)) ac ae ->
 ∃ af ag ah ai aj, Loads P 26 ((⟨r, 0, none⟩ : Addr).add 0) (.agg #[.string af, .bool ag, .slice ah ai aj]) ae /\ Calls P 13 ⟨[.agg #[.string af, .bool ag, .slice ah ai aj]]⟩ ae fun e ak =>
 ∃ al am an ao ap, e = .returned (.agg #[.string al, .bool am, .slice an ao ap]) /\
 ∃ wv_4, Stores P 33 ((⟨ac, 0, none⟩ : Addr).add 0) (.agg #[.string al, .bool am, .slice an ao ap]) ak wv_4 /\
 ∃ aq ar au av aw, Loads P 87 ((⟨r, 0, none⟩ : Addr).add 3) (.agg #[.bool aq, .slice ar au av, .int .i64 aw]) wv_4 /\ Calls P 57 ⟨[.agg #[.bool aq, .slice ar au av, .int .i64 aw]]⟩ wv_4 fun ax ay =>
 ∃ az b0 b1 b2 b3, ax = .returned (.agg #[.bool az, .slice b0 b1 b2, .int .i64 b3]) /\
 ∃ wv_6, Stores P 63 ((⟨ac, 0, none⟩ : Addr).add 3) (.agg #[.bool az, .slice b0 b1 b2, .int .i64 b3]) ay wv_6 /\
 ∃ b4 b5 b6 b7 b8 b9 ba bb bc bd, Loads P 141 ⟨ac, 0, none⟩ (.agg #[.string b4, .bool b5, .slice b6 b7 b8, .bool b9, .slice ba bb bc, .int .i64 bd]) wv_6 /\ ∃ wv_7, Stores P 141 ⟨aa, 0, none⟩ (.agg #[.string b4, .bool b5, .slice b6 b7 b8, .bool b9, .slice ba bb bc, .int .i64 bd]) wv_6 wv_7 /\
 ∃ r0 r1 be bf bg r3 bh bi bj r5, Loads P 141 ⟨aa, 0, none⟩ (.agg #[.string r0, .bool r1, .slice be bf bg, .bool r3, .slice bh bi bj, .int .i64 r5]) wv_7 /\ R (.agg #[.string r0, .bool r1, .slice be bf bg, .bool r3, .slice bh bi bj, .int .i64 r5]) wv_7
theorem laws_toTaxLine_ret {a0 : ByteArray} {a1 : Bool} {a2_p : Option Addr} {a2_n : Nat} {a2_c : Nat} {a3 : Bool} {a4_p : Option Addr} {a4_n : Nat} {a4_c : Nat} {a5 : Int} {w : World} {R : Value → World → Prop} (h : laws_toTaxLine a0 a1 a2_p a2_n a2_c a3 a4_p a4_n a4_c a5 w R) : Ret P 115 [(.agg #[(.string a0), (.bool a1), (.slice a2_p a2_n a2_c), (.bool a3), (.slice a4_p a4_n a4_c), (.int .i64 a5)])] w R :=
  Ret.of_fsem Tryz.func115 rfl (Eq.mp (show _ = fsem P Tryz.f115 (fun k => []) _ R w from by kernel_rfl) h)
def laws_eqTaxSum (a0 : Bool) (a1 : Option Addr) (a5 a8 : Nat) (a2 : Int) (a3 : ByteArray) (a4 : Bool) (a9 : Option Addr) (aa ab : Nat) (a6 : ByteArray) (a7 : Bool) (ac : Option Addr) (ae af : Nat) (b0 : Bool) (ag : Option Addr) (ah ai : Nat) (b2 : Int) (b3 : ByteArray) (b4 : Bool) (aj : Option Addr) (ak al : Nat) (b6 : ByteArray) (b7 : Bool) (am : Option Addr) (an ao : Nat) (w : World) (R : Value -> World -> Prop) : Prop :=
 ∀ r wv, New w (.cells ⟨[.bool a0, .slice a1 a5 a8, .int .i64 a2, .string a3, .bool a4, .slice a9 aa ab, .string a6, .bool a7, .slice ac ae af]⟩ 145 (0, 0)) r wv ->
 ∀ ap aq, New wv (.cells ⟨[.bool b0, .slice ag ah ai, .int .i64 b2, .string b3, .bool b4, .slice aj ak al, .string b6, .bool b7, .slice am an ao]⟩ 145 (0, 0)) ap aq ->
 ∃ ar au av aw ax, Loads P 63 ((⟨r, 0, none⟩ : Addr).add 0) (.agg #[.bool ar, .slice au av aw, .int .i64 ax]) aq /\ ∃ ay az b1 b5 b8, Loads P 63 ((⟨ap, 0, none⟩ : Addr).add 0) (.agg #[.bool ay, .slice az b1 b5, .int .i64 b8]) aq /\ Calls P 38 ⟨[.agg #[.bool ar, .slice au av aw, .int .i64 ax], .agg #[.bool ay, .slice az b1 b5, .int .i64 b8]]⟩ aq fun e b9 =>
 ∃ t9, e = .returned (.bool t9) /\
 ((!t9) = true ->
 R (.bool false) b9) /\
 ((!t9) = false ->
 ∃ ba bb bc bd be, Loads P 33 ((⟨r, 0, none⟩ : Addr).add 3) (.agg #[.string ba, .bool bb, .slice bc bd be]) b9 /\ ∃ bf bg bh bi bj, Loads P 33 ((⟨ap, 0, none⟩ : Addr).add 3) (.agg #[.string bf, .bool bg, .slice bh bi bj]) b9 /\ Calls P 17 ⟨[.agg #[.string ba, .bool bb, .slice bc bd be], .agg #[.string bf, .bool bg, .slice bh bi bj]]⟩ b9 fun bk bl =>
 ∃ bm, bk = .returned (.bool bm) /\
 ((!bm) = true ->
 R (.bool false) bl) /\
 ((!bm) = false ->
 ∃ bn bo bp bq br, Loads P 33 ((⟨r, 0, none⟩ : Addr).add 6) (.agg #[.string bn, .bool bo, .slice bp bq br]) bl /\ ∃ bs bt bu bv bw, Loads P 33 ((⟨ap, 0, none⟩ : Addr).add 6) (.agg #[.string bs, .bool bt, .slice bu bv bw]) bl /\ Calls P 17 ⟨[.agg #[.string bn, .bool bo, .slice bp bq br], .agg #[.string bs, .bool bt, .slice bu bv bw]]⟩ bl fun bx bz =>
 ∃ c0, bx = .returned (.bool c0) /\
 ((!c0) = true ->
 R (.bool false) bz) /\
 ((!c0) = false ->
 R (.bool true) bz)))
theorem laws_eqTaxSum_ret {a0 : Bool} {a1_p : Option Addr} {a1_n : Nat} {a1_c : Nat} {a2 : Int} {a3 : ByteArray} {a4 : Bool} {a5_p : Option Addr} {a5_n : Nat} {a5_c : Nat} {a6 : ByteArray} {a7 : Bool} {a8_p : Option Addr} {a8_n : Nat} {a8_c : Nat} {b0 : Bool} {b1_p : Option Addr} {b1_n : Nat} {b1_c : Nat} {b2 : Int} {b3 : ByteArray} {b4 : Bool} {b5_p : Option Addr} {b5_n : Nat} {b5_c : Nat} {b6 : ByteArray} {b7 : Bool} {b8_p : Option Addr} {b8_n : Nat} {b8_c : Nat} {w : World} {R : Value → World → Prop} (h : laws_eqTaxSum a0 a1_p a1_n a1_c a2 a3 a4 a5_p a5_n a5_c a6 a7 a8_p a8_n a8_c b0 b1_p b1_n b1_c b2 b3 b4 b5_p b5_n b5_c b6 b7 b8_p b8_n b8_c w R) : Ret P 123 [(.agg #[(.bool a0), (.slice a1_p a1_n a1_c), (.int .i64 a2), (.string a3), (.bool a4), (.slice a5_p a5_n a5_c), (.string a6), (.bool a7), (.slice a8_p a8_n a8_c)]), (.agg #[(.bool b0), (.slice b1_p b1_n b1_c), (.int .i64 b2), (.string b3), (.bool b4), (.slice b5_p b5_n b5_c), (.string b6), (.bool b7), (.slice b8_p b8_n b8_c)])] w R :=
  Ret.of_fsem Tryz.func123 rfl (Eq.mp (show _ = fsem P Tryz.f123 (fun k => []) _ R w from by kernel_rfl) h)
def laws_eqTaxLine (a0 : ByteArray) (a1 : Bool) (a2 : Option Addr) (a4 a6 : Nat) (a3 : Bool) (a7 : Option Addr) (a8 a9 : Nat) (a5 : Int) (b0 : ByteArray) (b1 : Bool) (aa : Option Addr) (ab ac : Nat) (b3 : Bool) (ae : Option Addr) (af ag : Nat) (b5 : Int) (w : World) (R : Value -> World -> Prop) : Prop :=
 ∀ r wv, New w (.cells ⟨[.string a0, .bool a1, .slice a2 a4 a6, .bool a3, .slice a7 a8 a9, .int .i64 a5]⟩ 141 (0, 0)) r wv ->
 ∀ ah ai, New wv (.cells ⟨[.string b0, .bool b1, .slice aa ab ac, .bool b3, .slice ae af ag, .int .i64 b5]⟩ 141 (0, 0)) ah ai ->
 ∃ aj ak al am an, Loads P 33 ((⟨r, 0, none⟩ : Addr).add 0) (.agg #[.string aj, .bool ak, .slice al am an]) ai /\ ∃ ao ap aq ar au, Loads P 33 ((⟨ah, 0, none⟩ : Addr).add 0) (.agg #[.string ao, .bool ap, .slice aq ar au]) ai /\ Calls P 17 ⟨[.agg #[.string aj, .bool ak, .slice al am an], .agg #[.string ao, .bool ap, .slice aq ar au]]⟩ ai fun e av =>
 ∃ t9, e = .returned (.bool t9) /\
 ((!t9) = true ->
 R (.bool false) av) /\
 ((!t9) = false ->
 ∃ aw ax ay az b2, Loads P 63 ((⟨r, 0, none⟩ : Addr).add 3) (.agg #[.bool aw, .slice ax ay az, .int .i64 b2]) av /\ ∃ b4 b6 b7 b8 b9, Loads P 63 ((⟨ah, 0, none⟩ : Addr).add 3) (.agg #[.bool b4, .slice b6 b7 b8, .int .i64 b9]) av /\ Calls P 38 ⟨[.agg #[.bool aw, .slice ax ay az, .int .i64 b2], .agg #[.bool b4, .slice b6 b7 b8, .int .i64 b9]]⟩ av fun ba bb =>
 ∃ bc, ba = .returned (.bool bc) /\
 ((!bc) = true ->
 R (.bool false) bb) /\
 ((!bc) = false ->
 R (.bool true) bb))
theorem laws_eqTaxLine_ret {a0 : ByteArray} {a1 : Bool} {a2_p : Option Addr} {a2_n : Nat} {a2_c : Nat} {a3 : Bool} {a4_p : Option Addr} {a4_n : Nat} {a4_c : Nat} {a5 : Int} {b0 : ByteArray} {b1 : Bool} {b2_p : Option Addr} {b2_n : Nat} {b2_c : Nat} {b3 : Bool} {b4_p : Option Addr} {b4_n : Nat} {b4_c : Nat} {b5 : Int} {w : World} {R : Value → World → Prop} (h : laws_eqTaxLine a0 a1 a2_p a2_n a2_c a3 a4_p a4_n a4_c a5 b0 b1 b2_p b2_n b2_c b3 b4_p b4_n b4_c b5 w R) : Ret P 124 [(.agg #[(.string a0), (.bool a1), (.slice a2_p a2_n a2_c), (.bool a3), (.slice a4_p a4_n a4_c), (.int .i64 a5)]), (.agg #[(.string b0), (.bool b1), (.slice b2_p b2_n b2_c), (.bool b3), (.slice b4_p b4_n b4_c), (.int .i64 b5)])] w R :=
  Ret.of_fsem Tryz.func124 rfl (Eq.mp (show _ = fsem P Tryz.f124 (fun k => []) _ R w from by kernel_rfl) h)
end Go.Proofs.YtfehpaekbbmkcaaGreatDoor

namespace Go.Proofs.YtfehpaekbbmkcaaGreatDoor.Sx
open Go Go.RowKit
set_option linter.unusedVariables false
set_option linter.unusedSimpArgs false
theorem Ext.le {a b : World} (h : Ext a b) : a.heap.size ≤ b.heap.size := h.size
def Seg (w : World) (b off : Nat) (cs : List Value) : Prop := ∀ j v, cs[j]? = some v → w.cell? ⟨b, off + j, none⟩ = some v
theorem Seg.nil {w : World} {b off : Nat} : Seg w b off [] := fun j v h => by simp at h
theorem Seg.drop {w : World} {b off : Nat} {cs : List Value} (h : Seg w b off cs) (k : Nat) : Seg w b (off + k) (cs.drop k) := fun j v hj => by
  rw [List.getElem?_drop] at hj
  have := h _ _ hj
  rwa [Nat.add_assoc]
theorem Seg.take {w : World} {b off : Nat} {cs : List Value} (h : Seg w b off cs) (k : Nat) : Seg w b off (cs.take k) := fun j v hj => by
  rw [List.getElem?_take] at hj
  split at hj
  · exact h _ _ hj
  · cases hj
theorem Seg.ext {w w' : World} {b off : Nat} {cs : List Value} (h : Seg w b off cs) (he : Ext w w') : Seg w' b off cs := fun j v hj => by
  have h1 := h j v hj
  rw [← h1]
  exact he.cell (World.block_lt_of_cell? w _ h1)
theorem Seg.chg {S : List Nat} {w w' : World} {b off : Nat} {cs : List Value} (h : Seg w b off cs) (he : Chg S w w') (hb : b ∉ S) : Seg w' b off cs := fun j v hj => by
  have h1 := h j v hj
  rw [← h1]
  exact World.cell?_of_block (he.block b (World.block_lt_of_cell? w _ h1) hb)
def Blk (w : World) (b : Nat) (e : TypeId) (xs : List Value) : Prop := w.heap[b]? = some (.cells ⟨xs⟩ e (0, 0))
theorem Blk.lt {w : World} {b : Nat} {e : TypeId} {xs : List Value} (h : Blk w b e xs) : b < w.heap.size := (Array.getElem?_eq_some_iff.1 h).1
theorem Blk.ext {w w' : World} {b : Nat} {e : TypeId} {xs : List Value} (h : Blk w b e xs) (he : Ext w w') : Blk w' b e xs := (he.block b h.lt).trans h
theorem Blk.chg {S : List Nat} {w w' : World} {b : Nat} {e : TypeId} {xs : List Value} (h : Blk w b e xs) (he : Chg S w w') (hb : b ∉ S) : Blk w' b e xs := (he.block b h.lt hb).trans h
theorem Blk.cell {w : World} {b : Nat} {e : TypeId} {xs : List Value} (h : Blk w b e xs) (j : Nat) : w.cell? ⟨b, j, none⟩ = xs[j]? := by
  rw [cell_of_row w b j _ e (0, 0) h]; simp
theorem Blk.seg {w : World} {b : Nat} {e : TypeId} {xs : List Value} (h : Blk w b e xs) : Seg w b 0 xs := fun j v hj => by rw [Nat.zero_add, h.cell, hj]
theorem New.ext {w w' : World} {o : Obj} {r : Nat} (h : New w o r w') : Ext w w' := by
  obtain ⟨rfl, rfl⟩ := h
  exact (Below.refl _ _).alloc (Nat.le_refl _) _
theorem New.size {w w' : World} {o : Obj} {r : Nat} (h : New w o r w') : w'.heap.size = w.heap.size + 1 := by
  obtain ⟨rfl, rfl⟩ := h; simp
theorem New.blk {w w' : World} {xs : List Value} {e : TypeId} {r : Nat} (h : New w (.cells ⟨xs⟩ e (0, 0)) r w') : Blk w' r e xs := by
  obtain ⟨rfl, rfl⟩ := h
  exact heap_alloc_new w _
theorem addr_add (b o k : Nat) : (⟨b, o, none⟩ : Addr).add k = ⟨b, o + k, none⟩ := Addr.add_lit b o k
section
variable {P : Program}
def cellT (P : Program) (t : TypeId) : Bool :=
  match P.underlying t, P.info? t with
  | some (.struct _), _ => false
  | some (.array _ _), _ => false
  | some _, some i => Nat.beq i.size 1
  | _, _ => false
def aggT (P : Program) (t : TypeId) (n : Nat) : Bool :=
  match P.underlying t, P.info? t with
  | some (.struct _), some i => Nat.beq i.size n
  | some (.array _ _), some i => Nat.beq i.size n
  | _, _ => false
theorem cellT_spec {t : TypeId} (h : cellT P t = true) : (∀ w, (isAgg t).run P w = .ok false w) ∧ ∃ i, P.info? t = some i ∧ i.size = 1 := by
  unfold cellT at h
  split at h <;> try cases h
  rename_i d i hs ha hu hi
  refine ⟨fun w => ?_, i, hi, Nat.eq_of_beq_eq_true h⟩
  unfold isAgg
  rw [Sem.run_bind, underlying_run hu w]
  cases d <;> first | rfl | (exact absurd rfl (hs _)) | (exact absurd rfl (ha _ _))
theorem aggT_spec {t : TypeId} {n : Nat} (h : aggT P t n = true) : (∀ w, (isAgg t).run P w = .ok true w) ∧ ∃ i, P.info? t = some i ∧ i.size = n := by
  unfold aggT at h
  split at h
  · rename_i fs i hu hi
    exact ⟨fun w => by unfold isAgg; rw [Sem.run_bind, underlying_run hu w]; rfl, i, hi, Nat.eq_of_beq_eq_true h⟩
  · rename_i k e i hu hi
    exact ⟨fun w => by unfold isAgg; rw [Sem.run_bind, underlying_run hu w]; rfl, i, hi, Nat.eq_of_beq_eq_true h⟩
  · cases h
theorem loads1 {w : World} {t : TypeId} {b o : Nat} {v : Value} (ht : cellT P t = true) (h : w.cell? ⟨b, o, none⟩ = some v) : Loads P t ⟨b, o, none⟩ v w := by
  unfold Loads loadVar
  rw [Sem.run_bind, (cellT_spec ht).1]
  simp [h]
theorem loadsA {w : World} {t : TypeId} {b o : Nat} {cs : List Value} (ht : aggT P t cs.length = true) (h : Seg w b o cs) : Loads P t ⟨b, o, none⟩ (.agg ⟨cs⟩) w := by
  obtain ⟨h1, i, hi, hn⟩ := aggT_spec ht
  unfold Loads loadVar
  rw [Sem.run_bind, h1]
  simp only [Result.andThen_ok, if_true, Sem.run_bind, sizeOf_run hi, hn]
  rw [run_loadCells_list (P := P) w ⟨b, o, none⟩ cs fun j v hv => by rw [addr_add]; exact h j v hv]
  rfl
theorem Seg.load {w : World} {t : TypeId} {b o k : Nat} {cs : List Value} {v : Value} (h : Seg w b o cs) (ht : cellT P t = true) (hx : cs[k]? = some v) : Loads P t ((⟨b, o, none⟩ : Addr).add k) v w := by
  rw [addr_add]; exact loads1 ht (h _ _ hx)
theorem Seg.loadA {w : World} {t : TypeId} {b o k : Nat} {cs xs : List Value} (h : Seg w b o cs) (ht : aggT P t xs.length = true) (hx : (cs.drop k).take xs.length = xs) : Loads P t ((⟨b, o, none⟩ : Addr).add k) (.agg ⟨xs⟩) w := by
  rw [addr_add]
  refine loadsA ht ?_
  have := (h.drop k).take xs.length
  rwa [hx] at this
theorem Blk.load {w : World} {t : TypeId} {b k : Nat} {e : TypeId} {cs : List Value} {v : Value} (h : Blk w b e cs) (ht : cellT P t = true) (hx : cs[k]? = some v) : Loads P t ((⟨b, 0, none⟩ : Addr).add k) v w :=
  h.seg.load ht hx
theorem Blk.loadA {w : World} {t : TypeId} {b k : Nat} {e : TypeId} {cs xs : List Value} (h : Blk w b e cs) (ht : aggT P t xs.length = true) (hx : (cs.drop k).take xs.length = xs) : Loads P t ((⟨b, 0, none⟩ : Addr).add k) (.agg ⟨xs⟩) w :=
  h.seg.loadA ht hx
theorem setRow_chg (w : World) (b : Nat) (cs : Array Value) : Chg [b] w (w.setRow b cs) :=
  ⟨rfl, rfl, rfl, by simp, fun k _ hk => setRow_other w b k _ (by simpa using hk)⟩
theorem Blk.store {w : World} {t : TypeId} {b k : Nat} {e : TypeId} {cs : List Value} {v : Value} (h : Blk w b e cs) (ht : cellT P t = true) (hk : k < cs.length) (hv : v.oneCell' = true) :
    ∃ w', Stores P t ((⟨b, 0, none⟩ : Addr).add k) v w w' ∧ Blk w' b e (cs.set k v) ∧ Chg [b] w w' ∧ w'.heap.size = w.heap.size := by
  obtain ⟨_, i, hi, hn⟩ := cellT_spec ht
  have hc : v.cells = #[v] := by cases v <;> first | rfl | (simp [Value.oneCell'] at hv)
  have hst := run_storeCells_at P b k e [v] 0 ⟨cs⟩ w h (by simp only [List.length_cons, List.length_nil]; show k + 0 + 1 ≤ cs.length; omega) (by simpa using hv)
  refine ⟨_, ?_, setRow_heap w b ⟨cs⟩ _ e _ h, setRow_chg _ _ _, by simp⟩
  · unfold Stores storeVar
    rw [addr_add, Nat.zero_add]
    simp only [Sem.run_bind, sizeOf_run hi, Result.andThen_ok, hc, hn, List.size_toArray, List.length_cons, List.length_nil]
    simp only [Nat.zero_add, ne_eq, not_true, if_false, Sem.run_pure, Result.andThen_ok]
    rw [hst]
    congr 3
    simp only [Nat.add_zero, List.length_cons, List.length_nil, Nat.zero_add]
    rw [List.set_eq_take_append_cons_drop]
    simp [hk]
theorem Blk.storeA {w : World} {t : TypeId} {b k : Nat} {e : TypeId} {cs xs : List Value} (h : Blk w b e cs) (ht : aggT P t xs.length = true) (hk : k + xs.length ≤ cs.length) (hv : ∀ v ∈ xs, v.oneCell' = true) :
    ∃ w', Stores P t ((⟨b, 0, none⟩ : Addr).add k) (.agg ⟨xs⟩) w w' ∧ Blk w' b e (cs.take k ++ xs ++ cs.drop (k + xs.length)) ∧ Chg [b] w w' ∧ w'.heap.size = w.heap.size := by
  obtain ⟨_, i, hi, hn⟩ := aggT_spec ht
  have hst := run_storeCells_at P b k e xs 0 ⟨cs⟩ w h (by simpa using hk) hv
  refine ⟨_, ?_, setRow_heap w b ⟨cs⟩ _ e _ h, setRow_chg _ _ _, by simp⟩
  unfold Stores storeVar
  rw [addr_add, Nat.zero_add]
  simp only [Sem.run_bind, sizeOf_run hi, Result.andThen_ok, Value.cells, hn, List.size_toArray]
  simp only [ne_eq, not_true, if_false, Sem.run_pure, Result.andThen_ok]
  rw [hst]
  simp
def sliceT (P : Program) (t e : TypeId) (z : Value) (size bytes : Nat) : Prop :=
 P.underlying t = some (.slice e) ∧ (P.info? e).map (fun i => (i.zero, i.size, i.bytes)) = some (some z, size, bytes) ∧ z.cells.size = size ∧ 0 < size
def Own (w : World) (base : Nat) (e : TypeId) (size : Nat) (p : Option Addr) (n c : Nat) (xs : List Value) : Prop := w.ownsRow base e size (.slice p n c) n xs
theorem Own.nil (w : World) (base : Nat) (e : TypeId) (size : Nat) : Own w base e size none 0 0 [] := World.ownsRow_nil w base e size
theorem Own.ext {w w' : World} {base : Nat} {e : TypeId} {size : Nat} {p : Option Addr} {n c : Nat} {xs : List Value} (h : Own w base e size p n c xs) (he : Ext w w') : Own w' base e size p n c xs :=
  h.kept (row := none) ⟨he.os, he.tape, he.output, he.size, fun k hk _ => he.block k hk⟩ (by cases p <;> simp [Value.ownBlock])
theorem Own.of_blk {w : World} {base : Nat} {e : TypeId} {size : Nat} {r n : Nat} {xs : List Value} (h : Blk w r e xs) (hb : base ≤ r) (hl : xs.length = n * size) (hn : n ≤ maxLen) : Own w base e size (some ⟨r, 0, none⟩) n n xs :=
  ⟨hl, .inr ⟨r, n, ⟨xs⟩, rfl, hb, h, Nat.le_refl _, hn, by simpa using hl, by simp [← hl]⟩⟩
theorem Own.of_blk0 {w : World} {base : Nat} {e : TypeId} {size : Nat} {r n : Nat} {xs : List Value} (h : Blk w r e xs) (hb : base ≤ r) (hl : xs.length = n * size) (hn : n ≤ maxLen) : Own w base e size (some ⟨r, 0, none⟩) 0 n [] :=
  ⟨by simp, .inr ⟨r, n, ⟨xs⟩, rfl, hb, h, Nat.zero_le _, hn, by simpa using hl, by simp⟩⟩
theorem Own.len {w : World} {base : Nat} {e : TypeId} {size : Nat} {p : Option Addr} {n c : Nat} {xs : List Value} (h : Own w base e size p n c xs) : xs.length = n * size := h.1
theorem Own.le {w : World} {base : Nat} {e : TypeId} {size : Nat} {p : Option Addr} {n c : Nat} {xs : List Value} (h : Own w base e size p n c xs) : n ≤ c := by
  rcases h.2 with ⟨h1, h2⟩ | ⟨g, cap, cur, h1, _, _, h3, _⟩
  · omega
  · simp only [Value.slice.injEq] at h1; omega
theorem Own.capLe {w : World} {base : Nat} {e : TypeId} {size : Nat} {p : Option Addr} {n c : Nat} {xs : List Value} (h : Own w base e size p n c xs) : c ≤ 9223372036854775807 := by
  rcases h.2 with ⟨h1, h2⟩ | ⟨g, cap, cur, h1, _, _, h3, h4, _⟩
  · simp only [Value.slice.injEq] at h1; omega
  · simp only [Value.slice.injEq] at h1; simp only [maxLen] at h4; omega
theorem Own.seg {w : World} {base : Nat} {e : TypeId} {size : Nat} {p : Option Addr} {n c : Nat} {xs : List Value} (h : Own w base e size p n c xs) (hn : 0 < n) : ∃ b, p = some ⟨b, 0, none⟩ ∧ base ≤ b ∧ Seg w b 0 xs := by
  rcases h.2 with ⟨h1, h2⟩ | ⟨g, cap, cur, h1, hb, hg, h3, h4, h5, h6⟩
  · omega
  · simp only [Value.slice.injEq] at h1
    refine ⟨g, h1.1, hb, fun j v hj => ?_⟩
    rw [Nat.zero_add, cell_of_row w g j cur e (0, 0) hg]
    rw [← h6, List.getElem?_take] at hj
    split at hj
    · simpa using hj
    · cases hj
theorem Own.mono {w : World} {base base' : Nat} {e : TypeId} {size : Nat} {p : Option Addr} {n c : Nat} {xs : List Value} (h : Own w base e size p n c xs) (hb : base' ≤ base) : Own w base' e size p n c xs := by
  refine ⟨h.1, ?_⟩
  rcases h.2 with h1 | ⟨g, cap, cur, h1, h2, h3⟩
  · exact .inl h1
  · exact .inr ⟨g, cap, cur, h1, Nat.le_trans hb h2, h3⟩
theorem Own.append {w : World} {base : Nat} {t e : TypeId} {z : Value} {size bytes : Nat} {p : Option Addr} {n c r m mc : Nat} {xs news : List Value} (h : Own w base e size p n c xs)
    (hT : sliceT P t e z size bytes) (hb : base ≤ w.heap.size) (hr : Blk w r e news) (hl : news.length = m * size) (h1 : ∀ u ∈ news, u.oneCell' = true)
    (hbytes : (n + m) * bytes ≤ 140737488355328) (hby : 1 ≤ bytes) :
    ∃ p' c' w', Appends P [t, t] [.slice p n c, .slice (some ⟨r, 0, none⟩) m mc] (.slice p' (n + m) c') w w' ∧ Own w' base e size p' (n + m) c' (xs ++ news) ∧
      (∀ w0, Ext w0 w → w0.heap.size ≤ base → Ext w0 w') ∧ (∀ b e' ys, Blk w b e' ys → p.map (·.block) ≠ some b → Blk w' b e' ys) ∧
      (∀ b o ys, Seg w b o ys → p.map (·.block) ≠ some b → Seg w' b o ys) := by
  obtain ⟨hu, hi, hz, hs⟩ := hT
  cases hinf : P.info? e with
  | none => rw [hinf] at hi; cases hi
  | some i =>
    rw [hinf] at hi
    simp only [Option.map_some, Option.some.injEq, Prod.mk.injEq] at hi
    have hnm : n + m ≤ maxLen := by
      have : n + m ≤ (n + m) * bytes := Nat.le_mul_of_pos_right _ hby
      simp only [maxLen]; omega
    obtain ⟨v', w', hrun, hown, hgr, _⟩ := run_append_own (P := P) w base t 0 e i z size bytes hu hinf hi.1 hi.2.1 hi.2.2 hz hs (.slice p n c) n xs h ⟨r, 0, none⟩ m mc news hl
      (fun j u hj => by rw [addr_add, Nat.zero_add, hr.cell, hj]) h1 hnm hbytes hb
    have hlt := h.lt
    have hv : ∃ p' c', v' = .slice p' (n + m) c' := by
      rcases hown.2 with ⟨e1, e2⟩ | ⟨g, cap, cur, e1, _⟩
      · exact ⟨none, 0, by rw [e1, e2]⟩
      · exact ⟨_, _, e1⟩
    obtain ⟨p', c', rfl⟩ := hv
    have hob : (Value.slice p n c).ownBlock = p.map (·.block) := by cases p <;> rfl
    refine ⟨p', c', w', hrun, hown, ?_, ?_, ?_⟩
    · intro w0 hx hb0
      refine hx.chg (S := (p.map (·.block)).toList) ⟨hgr.os, hgr.tape, hgr.output, hgr.size, fun k hk hn => hgr.block k hk ?_⟩ ?_
      · rw [hob]; intro e; rw [← e] at hn; simp at hn
      · intro x hx'
        have := (hlt x (by rw [hob]; cases p <;> simp_all)).1
        omega
    · intro b e' ys hy hne
      exact (hgr.block b hy.lt (by rw [hob]; exact fun e => hne e.symm)).trans hy
    · intro b o ys hy hne j v hj
      have h3 := hy j v hj
      rw [← h3]
      exact World.cell?_of_block (hgr.block b (World.block_lt_of_cell? w _ h3) (by rw [hob]; exact fun e => hne e.symm))
end
def IntsR (w : World) (p : Option Addr) (n c : Nat) (zs : List Int) : Prop :=
 zs.length = n ∧ n ≤ c ∧ c ≤ 9223372036854775807 ∧ (0 < n → ∃ b off, p = some ⟨b, off, none⟩ ∧ Seg w b off (zs.map (Value.int .i64)))
theorem IntsR.ext {w w' : World} {p : Option Addr} {n c : Nat} {zs : List Int} (h : IntsR w p n c zs) (he : Ext w w') : IntsR w' p n c zs :=
  ⟨h.1, h.2.1, h.2.2.1, fun hn => let ⟨b, off, hp, hs⟩ := h.2.2.2 hn; ⟨b, off, hp, hs.ext he⟩⟩
theorem IntsR.chg {S : List Nat} {w w' : World} {p : Option Addr} {n c : Nat} {zs : List Int} (h : IntsR w p n c zs) (he : Chg S w w') (hS : ∀ b, p.map (·.block) = some b → b ∉ S) : IntsR w' p n c zs :=
  ⟨h.1, h.2.1, h.2.2.1, fun hn => let ⟨b, off, hp, hs⟩ := h.2.2.2 hn; ⟨b, off, hp, hs.chg he (hS b (by rw [hp]; rfl))⟩⟩
theorem IntsR.nil (w : World) (p : Option Addr) {c : Nat} (hc : c ≤ 9223372036854775807) : IntsR w p 0 c [] := ⟨rfl, Nat.zero_le _, hc, fun h => absurd h (by omega)⟩
theorem Own.ints {w : World} {base : Nat} {e : TypeId} {p : Option Addr} {n c : Nat} {zs : List Int} (h : Own w base e 1 p n c (zs.map (Value.int .i64))) : IntsR w p n c zs :=
  ⟨by simpa using h.len, h.le, h.capLe, fun hn => let ⟨b, hp, _, hs⟩ := h.seg hn; ⟨b, 0, hp, hs⟩⟩
theorem IntsR.at {P : Program} {w : World} {p : Option Addr} {n c k : Nat} {zs : List Int} (h : IntsR w p n c zs) {t : TypeId} (ht : cellT P t = true) (hk : k < n) :
    ∃ a, p = some a ∧ Loads P t (a.add (k * 1)) (.int .i64 (zs[k]'(by rw [h.1]; exact hk))) w := by
  obtain ⟨b, off, hp, hs⟩ := h.2.2.2 (by omega)
  refine ⟨_, hp, ?_⟩
  rw [Nat.mul_one]
  exact hs.load ht (by simp [List.getElem?_eq_getElem (by rw [h.1]; exact hk : k < zs.length)])
theorem wrap64 {e : Int} (h1 : -9223372036854775808 ≤ e) (h2 : e ≤ 9223372036854775807) : IntKind.wrap .i64 e = e := by
  simp only [IntKind.wrap, IntKind.bits, IntKind.signed]
  by_cases h0 : 0 ≤ e
  · have : e % (2 ^ 64 : Int) = e := Int.emod_eq_of_lt h0 (by omega)
    simp [this]; omega
  · have : e % (2 ^ 64 : Int) = e + 2 ^ 64 := by omega
    simp [this]; omega
theorem exW {e : Int} {Q : Int → Prop} (h : -9223372036854775808 ≤ e ∧ e ≤ 9223372036854775807) (hq : Q e) : ∃ z, z = IntKind.wrap .i64 e ∧ Q z := ⟨e, (wrap64 h.1 h.2).symm, hq⟩
theorem ifD {p : Prop} [Decidable p] {A B : Prop} (ha : p → A) (hb : ¬ p → B) : (decide p = true → A) ∧ (decide p = false → B) :=
  ⟨fun h => ha (of_decide_eq_true h), fun h => hb (of_decide_eq_false h)⟩
theorem ifN {b : Bool} {A B : Prop} (ha : b = false → A) (hb : b = true → B) : ((!b) = true → A) ∧ ((!b) = false → B) := ⟨fun h => ha (by simpa using h), fun h => hb (by simpa using h)⟩
theorem ifT {A B : Prop} (ha : A) : (true = true → A) ∧ (true = false → B) := ⟨fun _ => ha, fun h => nomatch h⟩
theorem ifF {A B : Prop} (hb : B) : (false = true → A) ∧ (false = false → B) := ⟨fun h => (nomatch h), fun _ => hb⟩
theorem zeroRow_int (k : IntKind) (z : Int) (n : Nat) : zeroRow (.int k z) n = List.replicate n (.int k z) := by
  unfold zeroRow
  apply List.ext_getElem
  · simp
  · intro i h1 h2
    simp [Value.cells, Nat.mod_one]
end Go.Proofs.YtfehpaekbbmkcaaGreatDoor.Sx

namespace Go.Proofs.YtfehpaekbbmkcaaGreatDoor
abbrev n_laws_FnExactTaxSums : Nat := 8
abbrev n_laws_szMoney : Nat := 11
abbrev n_laws_toMoney : Nat := 13
abbrev n_laws_toIntS : Nat := 14
abbrev n_laws_eqMoney : Nat := 17
abbrev n_laws_eqIntS : Nat := 18
abbrev n_laws_markIntS : Nat := 20
abbrev n_laws_eqDec : Nat := 38
abbrev n_laws_szTaxLineS : Nat := 46
abbrev n_spec_TaxSums : Nat := 47
abbrev n_laws_toTaxLineS : Nat := 48
abbrev n_impl_TaxSums : Nat := 49
abbrev n_laws_eqTaxSumS : Nat := 50
abbrev n_laws_eqTaxLineS : Nat := 51
abbrev n_laws_markTaxLineS : Nat := 52
abbrev n_laws_markTaxSumS : Nat := 53
abbrev n_laws_heldTaxSumS : Nat := 54
abbrev n_laws_szDec : Nat := 55
abbrev n_laws_toDec : Nat := 57
abbrev n_laws_szSigned : Nat := 65
abbrev n_spec_MoneyOk : Nat := 67
abbrev n_laws_toSigned : Nat := 68
abbrev n_impl_MoneyOk : Nat := 69
abbrev n_laws_eqSigned : Nat := 71
abbrev n_laws_markText : Nat := 73
abbrev n_laws_heldIntS : Nat := 74
abbrev n_laws_szIntS : Nat := 76
abbrev n_spec_RatAdd : Nat := 77
abbrev n_spec_CurKnown : Nat := 80
abbrev n_impl_RatOk : Nat := 85
abbrev n_impl_CurKnown : Nat := 86
abbrev n_impl_RatAdd : Nat := 87
abbrev n_spec_DecLow : Nat := 95
abbrev n_laws_szTaxLine : Nat := 109
abbrev n_spec_TaxRateOk : Nat := 110
abbrev n_spec_DecCmp : Nat := 111
abbrev n_spec_IntAdd : Nat := 112
abbrev n_spec_l04Make : Nat := 113
abbrev n_spec_TaxOn : Nat := 114
abbrev n_laws_toTaxLine : Nat := 115
abbrev n_impl_TaxSums_1 : Nat := 116
abbrev n_impl_DecCmp : Nat := 117
abbrev n_impl_TaxRateOk : Nat := 118
abbrev n_impl_ordered_impl_TaxSum_at : Nat := 119
abbrev n_impl_DecLow : Nat := 120
abbrev n_impl_intAdd : Nat := 121
abbrev n_impl_TaxOn : Nat := 122
abbrev n_laws_eqTaxSum : Nat := 123
abbrev n_laws_eqTaxLine : Nat := 124
abbrev n_spec_l01In : Nat := 125
abbrev n_spec_l06Mode : Nat := 126
abbrev n_spec_IntMul : Nat := 127
abbrev n_spec_IntOf : Nat := 128
abbrev n_spec_IntCmp : Nat := 129
abbrev n_spec_NatDiv : Nat := 130
abbrev n_spec_l09Make : Nat := 132
abbrev n_impl_isMode : Nat := 133
abbrev n_impl_intCmp : Nat := 135
abbrev n_impl_natSmall : Nat := 136
abbrev n_impl_natAdd : Nat := 137
abbrev n_impl_IntOf : Nat := 139
abbrev n_spec_RatRound : Nat := 148
abbrev n_spec_IntOk : Nat := 151
abbrev n_impl_IntOk : Nat := 158
abbrev n_impl_NatOf : Nat := 160
abbrev n_impl_natCopy : Nat := 162
abbrev n_impl_natDiv : Nat := 164
abbrev n_impl_natMul : Nat := 165
abbrev n_impl_natSub : Nat := 166
abbrev n_impl_natCmp : Nat := 170
abbrev n_impl_signed : Nat := 173
abbrev n_spec_RatOk : Nat := 174
abbrev n_spec_l02Mul : Nat := 175
abbrev n_spec_l04Add : Nat := 176
abbrev n_spec_l05Low : Nat := 177
abbrev n_spec_l08Find : Nat := 179
abbrev n_impl_NatOk : Nat := 180
abbrev n_impl_natGcd : Nat := 181
abbrev n_impl_currencyOf : Nat := 182
abbrev n_impl_ratsOk : Nat := 183
abbrev n_impl_Rat_num : Nat := 184
abbrev n_impl_reduce : Nat := 185
abbrev n_impl_intCopy : Nat := 187
abbrev n_impl_intSign : Nat := 188
abbrev n_spec_l07Dec : Nat := 191
abbrev n_spec_DecAt : Nat := 193
abbrev n_spec_DecOk : Nat := 205
abbrev n_spec_l07Both : Nat := 206
abbrev n_spec_l02Cap : Nat := 207
abbrev n_spec_RatMul : Nat := 208
abbrev n_spec_MoneyRat : Nat := 209
abbrev n_spec_DecRat : Nat := 210
abbrev n_spec_RatMoney : Nat := 211
abbrev n_impl_DecOk : Nat := 212
abbrev n_slices_BinarySearchFunc_impl_TaxSum_impl_TaxSum_impl_TaxSum : Nat := 214
abbrev n_slices_Insert_impl_TaxSum_impl_TaxSum : Nat := 215
abbrev n_impl_DecAt : Nat := 216
abbrev n_impl_RatMul : Nat := 217
abbrev n_impl_MoneyRat : Nat := 218
abbrev n_impl_DecRat : Nat := 219
abbrev n_impl_RatMoney : Nat := 220
abbrev n_spec_NatOf : Nat := 221
abbrev n_spec_l02Cmp : Nat := 222
abbrev n_spec_NatOk : Nat := 223
abbrev n_spec_l03Div : Nat := 224
abbrev n_impl_intNeg : Nat := 226
abbrev n_impl_trim : Nat := 227
abbrev n_impl_natOf : Nat := 228
abbrev n_spec_l06Round : Nat := 233
abbrev n_spec_RatRest : Nat := 234
abbrev n_spec_RatNeg : Nat := 235
abbrev n_spec_IntNeg : Nat := 237
abbrev n_impl_divStep : Nat := 238
abbrev n_spec_NatGcd : Nat := 242
abbrev n_spec_l02Trim : Nat := 243
abbrev n_spec_l02Add : Nat := 244
abbrev n_spec_l02Sub : Nat := 245
abbrev n_spec_l05Gcd : Nat := 246
abbrev n_spec_l07Ten : Nat := 251
abbrev n_spec_NatCut : Nat := 252
abbrev n_impl_decOf : Nat := 257
abbrev n_impl_intMul : Nat := 258
abbrev n_spec_RatInt : Nat := 264
abbrev n_spec_RatMake : Nat := 265
abbrev n_impl_isScale : Nat := 266
abbrev n_impl_scaled_1 : Nat := 267
abbrev n_impl_natTen : Nat := 268
abbrev n_slices_overlaps_impl_TaxSum : Nat := 269
abbrev n_impl_RatRest : Nat := 271
abbrev n_impl_moneyOf : Nat := 272
abbrev n_spec_l03Small : Nat := 273
abbrev n_spec_l03Digit : Nat := 274
abbrev n_spec_l06Away : Nat := 277
abbrev n_spec_RatSub : Nat := 278
abbrev n_impl_subTimes : Nat := 279
abbrev n_impl_addBack : Nat := 280
abbrev n_spec_NatTen : Nat := 284
abbrev n_impl_RatRound : Nat := 299
abbrev n_impl_RatInt : Nat := 300
abbrev n_impl_RatSub : Nat := 301
abbrev n_spec_NatEven : Nat := 302
abbrev n_impl_roundQuotient : Nat := 329
abbrev n_impl_RatMake : Nat := 330
abbrev n_impl_ratNeg : Nat := 331
abbrev n_impl_roundModes : Nat := 350
abbrev n_impl_NatEven : Nat := 351
abbrev n_impl_intsOk : Nat := 352
abbrev n_impl_roundModes_1 : Nat := 357
abbrev n_impl_roundModes_2 : Nat := 358
abbrev n_impl_roundModes_3 : Nat := 359
abbrev n_impl_roundModes_4 : Nat := 360
abbrev n_impl_roundModes_5 : Nat := 361
abbrev n_impl_roundModes_6 : Nat := 362
abbrev n_impl_roundModes_7 : Nat := 363
abbrev T_int : Nat := 3
abbrev T_bool : Nat := 4
abbrev T_uint8 : Nat := 5
abbrev T_string : Nat := 9
abbrev T_s_int : Nat := 22
abbrev T_impl_Signed : Nat := 31
abbrev T_impl_Money : Nat := 33
abbrev T_impl_Rat : Nat := 53
abbrev T_impl_Dec : Nat := 63
abbrev T_s_impl_TaxSum : Nat := 76
abbrev T_laws_TaxLine : Nat := 139
abbrev T_impl_TaxLine : Nat := 141
abbrev T_impl_TaxSum : Nat := 145
abbrev T_impl_ordered_loop_example_g00793_impl_TaxSum : Nat := 153
abbrev T_spec_l08Row : Nat := 207
abbrev T_impl_currency : Nat := 210
abbrev T_20_impl_currency : Nat := 215
abbrev T_impl_roundMode : Nat := 330
abbrev T_7_impl_roundMode : Nat := 331
end Go.Proofs.YtfehpaekbbmkcaaGreatDoor

namespace Go.Proofs.YtfehpaekbbmkcaaGreatDoor.Sx
open Go Go.RowKit
set_option linter.unusedVariables false
set_option linter.unusedSimpArgs false
inductive D0 where
  | int (n : Int) | bool (b : Bool) | str (s : ByteArray) | ints (l : List Int)
  deriving DecidableEq
inductive C0 where
  | int | bool | str | ints
  deriving DecidableEq
def D0.code : D0 → C0
  | .int _ => .int
  | .bool _ => .bool
  | .str _ => .str
  | .ints _ => .ints
def Rep0 (w : World) (v : Value) : D0 → Prop
  | .int n => v = .int .i64 n
  | .bool b => v = .bool b
  | .str s => v = .string s
  | .ints zs => ∃ p n c, v = .slice p n c ∧ IntsR w p n c zs
def Reps (w : World) : List Value → List D0 → Prop
  | [], [] => True
  | v :: vs, d :: ds => Rep0 w v d ∧ Reps w vs ds
  | _, _ => False
theorem Rep0.ext {w w' : World} {v : Value} {d : D0} (h : Rep0 w v d) (he : Ext w w') : Rep0 w' v d := by
  cases d <;> simp only [Rep0] at h ⊢ <;> try exact h
  obtain ⟨p, n, c, hv, hi⟩ := h
  exact ⟨p, n, c, hv, hi.ext he⟩
theorem Reps.ext {w w' : World} : ∀ {vs : List Value} {ds : List D0}, Reps w vs ds → Ext w w' → Reps w' vs ds
  | [], [], _, _ => trivial
  | [], _ :: _, h, _ => h.elim
  | _ :: _, [], h, _ => h.elim
  | _ :: _, _ :: _, h, he => ⟨h.1.ext he, Reps.ext h.2 he⟩
theorem Reps.len {w : World} : ∀ {vs : List Value} {ds : List D0}, Reps w vs ds → vs.length = ds.length
  | [], [], _ => rfl
  | [], _ :: _, h => h.elim
  | _ :: _, [], h => h.elim
  | _ :: _, _ :: _, h => by simp [Reps.len h.2]
theorem Reps.append {w : World} : ∀ {vs us : List Value} {ds es : List D0}, Reps w vs ds → Reps w us es → Reps w (vs ++ us) (ds ++ es)
  | [], _, [], _, _, k => k
  | [], _, _ :: _, _, h, _ => h.elim
  | _ :: _, _, [], _, h, _ => h.elim
  | _ :: _, _, _ :: _, _, h, k => ⟨h.1, Reps.append h.2 k⟩
theorem Reps.one {w : World} {vs : List Value} {ds : List D0} (h : Reps w vs ds) (h1 : ∀ v ∈ vs, v.oneCell' = true → True) : True := trivial
theorem Rep0.cell1 {w : World} {v : Value} {d : D0} (h : Rep0 w v d) : v.oneCell' = true := by
  cases d <;> simp only [Rep0] at h
  case ints l => obtain ⟨p, n, c, hv, _⟩ := h; rw [hv]; rfl
  all_goals (rw [h]; rfl)
theorem Reps.cells1 {w : World} : ∀ {vs : List Value} {ds : List D0}, Reps w vs ds → ∀ v ∈ vs, v.oneCell' = true
  | [], [], _, v, hv => by simp at hv
  | [], _ :: _, h, _, _ => h.elim
  | _ :: _, [], h, _, _ => h.elim
  | x :: xs, d :: ds, h, v, hv => by
    rcases List.mem_cons.1 hv with e | e
    · rw [e]; exact h.1.cell1
    · exact Reps.cells1 h.2 v e
theorem Reps.int {w : World} {vs : List Value} {ds : List D0} {cs : List C0} (h : Reps w vs ds) (hc : ds.map D0.code = .int :: cs) : ∃ n us es, vs = .int .i64 n :: us ∧ ds = .int n :: es ∧ Reps w us es ∧ es.map D0.code = cs := by
  cases ds with
  | nil => simp at hc
  | cons d es =>
    cases vs with
    | nil => exact h.elim
    | cons v us =>
      simp only [List.map_cons, List.cons.injEq] at hc
      cases d <;> simp [D0.code] at hc
      rename_i n
      exact ⟨n, us, es, by rw [show v = _ from h.1], rfl, h.2, hc⟩
theorem Reps.bool {w : World} {vs : List Value} {ds : List D0} {cs : List C0} (h : Reps w vs ds) (hc : ds.map D0.code = .bool :: cs) : ∃ b us es, vs = .bool b :: us ∧ ds = .bool b :: es ∧ Reps w us es ∧ es.map D0.code = cs := by
  cases ds with
  | nil => simp at hc
  | cons d es =>
    cases vs with
    | nil => exact h.elim
    | cons v us =>
      simp only [List.map_cons, List.cons.injEq] at hc
      cases d <;> simp [D0.code] at hc
      rename_i n
      exact ⟨n, us, es, by rw [show v = _ from h.1], rfl, h.2, hc⟩
theorem Reps.str {w : World} {vs : List Value} {ds : List D0} {cs : List C0} (h : Reps w vs ds) (hc : ds.map D0.code = .str :: cs) : ∃ s us es, vs = .string s :: us ∧ ds = .str s :: es ∧ Reps w us es ∧ es.map D0.code = cs := by
  cases ds with
  | nil => simp at hc
  | cons d es =>
    cases vs with
    | nil => exact h.elim
    | cons v us =>
      simp only [List.map_cons, List.cons.injEq] at hc
      cases d <;> simp [D0.code] at hc
      rename_i n
      exact ⟨n, us, es, by rw [show v = _ from h.1], rfl, h.2, hc⟩
theorem Reps.ints {w : World} {vs : List Value} {ds : List D0} {cs : List C0} (h : Reps w vs ds) (hc : ds.map D0.code = .ints :: cs) :
    ∃ p n c zs us es, vs = .slice p n c :: us ∧ ds = .ints zs :: es ∧ IntsR w p n c zs ∧ Reps w us es ∧ es.map D0.code = cs := by
  cases ds with
  | nil => simp at hc
  | cons d es =>
    cases vs with
    | nil => exact h.elim
    | cons v us =>
      simp only [List.map_cons, List.cons.injEq] at hc
      cases d <;> simp [D0.code] at hc
      rename_i zs
      obtain ⟨p, n, c, hv, hi⟩ := h.1
      exact ⟨p, n, c, zs, us, es, by rw [hv], rfl, hi, h.2, hc⟩
theorem Reps.done {w : World} {vs : List Value} {ds : List D0} (h : Reps w vs ds) (hc : ds.map D0.code = []) : vs = [] ∧ ds = [] := by
  have : ds = [] := by simpa using hc
  subst this
  cases vs with
  | nil => exact ⟨rfl, rfl⟩
  | cons _ _ => exact h.elim
def RowsR (w : World) (k : Nat) (p : Option Addr) (n c : Nat) (l : List (List D0)) : Prop :=
 l.length = n ∧ n ≤ c ∧ c ≤ 9223372036854775807 ∧ (0 < n → ∃ b off, p = some ⟨b, off, none⟩ ∧ ∀ i x, l[i]? = some x → ∃ cs, cs.length = k ∧ Reps w cs x ∧ Seg w b (off + i * k) cs)
theorem RowsR.ext {w w' : World} {k : Nat} {p : Option Addr} {n c : Nat} {l : List (List D0)} (h : RowsR w k p n c l) (he : Ext w w') : RowsR w' k p n c l :=
  ⟨h.1, h.2.1, h.2.2.1, fun hn => let ⟨b, off, hp, hs⟩ := h.2.2.2 hn; ⟨b, off, hp, fun i x hx => let ⟨cs, h1, h2, h3⟩ := hs i x hx; ⟨cs, h1, h2.ext he, h3.ext he⟩⟩⟩
theorem RowsR.nil (w : World) (k : Nat) (p : Option Addr) {c : Nat} (hc : c ≤ 9223372036854775807) : RowsR w k p 0 c [] := ⟨rfl, Nat.zero_le _, hc, fun h => absurd h (by omega)⟩
theorem RowsR.at {P : Program} {w : World} {k : Nat} {p : Option Addr} {n c i : Nat} {l : List (List D0)} (h : RowsR w k p n c l) {t : TypeId} (ht : aggT P t k = true) (hi : i < n) :
    ∃ a cs, p = some a ∧ cs.length = k ∧ Reps w cs (l[i]'(by rw [h.1]; exact hi)) ∧ Loads P t (a.add (i * k)) (.agg ⟨cs⟩) w := by
  obtain ⟨b, off, hp, hs⟩ := h.2.2.2 (by omega)
  obtain ⟨cs, h1, h2, h3⟩ := hs i _ (List.getElem?_eq_getElem (by rw [h.1]; exact hi))
  refine ⟨_, cs, hp, h1, h2, ?_⟩
  rw [addr_add]
  exact loadsA (by rw [h1]; exact ht) h3
def D0.bulk : D0 → Nat
  | .str s => s.size
  | .ints l => l.length
  | _ => 0
def bulks (ds : List D0) : Nat := (ds.map D0.bulk).sum
theorem bulks_le {l : List (List D0)} {y : List D0} (h : y ∈ l) : bulks y ≤ (l.map bulks).sum := by
  induction l with
  | nil => simp at h
  | cons a r ih =>
    simp only [List.map_cons, List.sum_cons]
    rcases List.mem_cons.1 h with e | e
    · rw [e]; omega
    · have := ih e; omega
def D0.ok : D0 → Prop
  | .int n => -9223372036854775808 ≤ n ∧ n ≤ 9223372036854775807
  | .str s => s.size ≤ 9223372036854775807
  | .ints l => l.length ≤ 9223372036854775807
  | .bool _ => True
end Go.Proofs.YtfehpaekbbmkcaaGreatDoor.Sx

namespace Go.Proofs.YtfehpaekbbmkcaaGreatDoor.Sx
open Go Go.RowKit
set_option linter.unusedVariables false
set_option linter.unusedSimpArgs false
section
variable {P : Program}
theorem Blk.load0 {w : World} {t : TypeId} {b k : Nat} {e : TypeId} {cs : List Value} {v : Value} (h : Blk w b e cs) (ht : cellT P t = true) (hx : cs[k]? = some v) : Loads P t ⟨b, k, none⟩ v w :=
  loads1 ht (by rw [h.cell]; exact hx)
theorem Blk.loadA0 {w : World} {t : TypeId} {b : Nat} {e : TypeId} {cs : List Value} (h : Blk w b e cs) (ht : aggT P t cs.length = true) : Loads P t ⟨b, 0, none⟩ (.agg ⟨cs⟩) w :=
  loadsA ht h.seg
theorem Blk.store0 {w : World} {t : TypeId} {b k : Nat} {e : TypeId} {cs : List Value} {v : Value} (h : Blk w b e cs) (ht : cellT P t = true) (hk : k < cs.length) (hv : v.oneCell' = true) :
    ∃ w', Stores P t ⟨b, k, none⟩ v w w' ∧ Blk w' b e (cs.set k v) ∧ Chg [b] w w' ∧ w'.heap.size = w.heap.size := by
  have := h.store (P := P) ht hk hv
  rw [addr_add, Nat.zero_add] at this
  exact this
theorem Blk.storeA0 {w : World} {t : TypeId} {b : Nat} {e : TypeId} {cs xs : List Value} (h : Blk w b e cs) (ht : aggT P t xs.length = true) (hk : xs.length = cs.length) (hv : ∀ v ∈ xs, v.oneCell' = true) :
    ∃ w', Stores P t ⟨b, 0, none⟩ (.agg ⟨xs⟩) w w' ∧ Blk w' b e xs ∧ Chg [b] w w' ∧ w'.heap.size = w.heap.size := by
  obtain ⟨w', h1, h2, h3, h4⟩ := h.storeA (P := P) (k := 0) ht (by omega) hv
  rw [addr_add, Nat.zero_add] at h1
  refine ⟨w', h1, ?_, h3, h4⟩
  rw [List.take_zero, List.nil_append, Nat.zero_add, hk, List.drop_length, List.append_nil] at h2
  exact h2
end
def Own0 (w : World) (B : Nat) (v : Value) : D0 → List Nat → Prop
  | .int n, f => v = .int .i64 n ∧ f = []
  | .bool b, f => v = .bool b ∧ f = []
  | .str s, f => v = .string s ∧ f = []
  | .ints zs, f => ∃ p n c, v = .slice p n c ∧ Own w B T_int 1 p n c (zs.map (Value.int .i64)) ∧ f = (p.map (·.block)).toList
def Owns (w : World) (B : Nat) : List Value → List D0 → List Nat → Prop
  | [], [], f => f = []
  | v :: vs, d :: ds, f => ∃ f1 f2, f = f1 ++ f2 ∧ Own0 w B v d f1 ∧ Owns w B vs ds f2
  | _, _, _ => False
theorem Own0.rep {w : World} {B : Nat} {v : Value} {d : D0} {f : List Nat} (h : Own0 w B v d f) : Rep0 w v d := by
  cases d <;> simp only [Own0] at h <;> simp only [Rep0]
  case ints zs => obtain ⟨p, n, c, hv, ho, _⟩ := h; exact ⟨p, n, c, hv, ho.ints⟩
  all_goals exact h.1
theorem Owns.reps {w : World} {B : Nat} : ∀ {vs : List Value} {ds : List D0} {f : List Nat}, Owns w B vs ds f → Reps w vs ds
  | [], [], _, _ => trivial
  | [], _ :: _, _, h => h.elim
  | _ :: _, [], _, h => h.elim
  | _ :: _, _ :: _, _, h => by
    obtain ⟨f1, f2, _, h1, h2⟩ := h
    exact ⟨h1.rep, Owns.reps h2⟩
theorem Own0.lt {w : World} {B : Nat} {v : Value} {d : D0} {f : List Nat} (h : Own0 w B v d f) : ∀ k ∈ f, B ≤ k ∧ k < w.heap.size := by
  cases d <;> simp only [Own0] at h
  case ints zs =>
    obtain ⟨p, n, c, hv, ho, hf⟩ := h
    intro k hk
    rw [hf] at hk
    exact World.ownsRow.lt ho k (by cases p <;> simp_all [Value.ownBlock])
  all_goals (intro k hk; rw [h.2] at hk; simp at hk)
theorem Owns.lt {w : World} {B : Nat} : ∀ {vs : List Value} {ds : List D0} {f : List Nat}, Owns w B vs ds f → ∀ k ∈ f, B ≤ k ∧ k < w.heap.size
  | [], [], _, h, k, hk => by rw [h] at hk; simp at hk
  | [], _ :: _, _, h, _, _ => h.elim
  | _ :: _, [], _, h, _, _ => h.elim
  | _ :: _, _ :: _, _, h, k, hk => by
    obtain ⟨f1, f2, rfl, h1, h2⟩ := h
    rcases List.mem_append.1 hk with hk | hk
    · exact h1.lt k hk
    · exact Owns.lt h2 k hk
theorem Own0.ext {w w' : World} {B : Nat} {v : Value} {d : D0} {f : List Nat} (h : Own0 w B v d f) (he : Ext w w') : Own0 w' B v d f := by
  cases d <;> simp only [Own0] at h ⊢ <;> try exact h
  obtain ⟨p, n, c, hv, ho, hf⟩ := h
  exact ⟨p, n, c, hv, ho.ext he, hf⟩
theorem Owns.ext {w w' : World} {B : Nat} : ∀ {vs : List Value} {ds : List D0} {f : List Nat}, Owns w B vs ds f → Ext w w' → Owns w' B vs ds f
  | [], [], _, h, _ => h
  | [], _ :: _, _, h, _ => h.elim
  | _ :: _, [], _, h, _ => h.elim
  | _ :: _, _ :: _, _, h, he => by
    obtain ⟨f1, f2, rfl, h1, h2⟩ := h
    exact ⟨f1, f2, rfl, h1.ext he, Owns.ext h2 he⟩
theorem Own.chg {S : List Nat} {w w' : World} {B : Nat} {e : TypeId} {size : Nat} {p : Option Addr} {n c : Nat} {xs : List Value} (h : Own w B e size p n c xs) (he : Chg S w w') (hS : ∀ k, p.map (·.block) = some k → k ∉ S) : Own w' B e size p n c xs := by
  refine ⟨h.1, ?_⟩
  rcases h.2 with h1 | ⟨g, cap, cur, h1, h2, h3, h4⟩
  · exact .inl h1
  · refine .inr ⟨g, cap, cur, h1, h2, ?_, h4⟩
    simp only [Value.slice.injEq] at h1
    rw [he.block g (Array.getElem?_eq_some_iff.1 h3).1 (hS g (by rw [h1.1]; rfl))]
    exact h3
theorem Own0.chg {S : List Nat} {w w' : World} {B : Nat} {v : Value} {d : D0} {f : List Nat} (h : Own0 w B v d f) (he : Chg S w w') (hS : ∀ k ∈ f, k ∉ S) : Own0 w' B v d f := by
  cases d <;> simp only [Own0] at h ⊢ <;> try exact h
  obtain ⟨p, n, c, hv, ho, hf⟩ := h
  exact ⟨p, n, c, hv, ho.chg he (fun k hk => hS k (by rw [hf, hk]; simp)), hf⟩
theorem Owns.chg {S : List Nat} {w w' : World} {B : Nat} : ∀ {vs : List Value} {ds : List D0} {f : List Nat}, Owns w B vs ds f → Chg S w w' → (∀ k ∈ f, k ∉ S) → Owns w' B vs ds f
  | [], [], _, h, _, _ => h
  | [], _ :: _, _, h, _, _ => h.elim
  | _ :: _, [], _, h, _, _ => h.elim
  | _ :: _, _ :: _, _, h, he, hS => by
    obtain ⟨f1, f2, rfl, h1, h2⟩ := h
    exact ⟨f1, f2, rfl, h1.chg he (fun k hk => hS k (by simp [hk])), Owns.chg h2 he (fun k hk => hS k (by simp [hk]))⟩
theorem Owns.chg1 {r : Nat} {w w' : World} {B : Nat} {vs : List Value} {ds : List D0} {f : List Nat} (h : Owns w B vs ds f) (he : Chg [r] w w') (hr : r < B) : Owns w' B vs ds f :=
  h.chg he fun k hk hm => by
    have := (h.lt k hk).1
    simp at hm; omega
theorem Own0.mono {w : World} {B B' : Nat} {v : Value} {d : D0} {f : List Nat} (h : Own0 w B v d f) (hb : B' ≤ B) : Own0 w B' v d f := by
  cases d <;> simp only [Own0] at h ⊢ <;> try exact h
  obtain ⟨p, n, c, hv, ho, hf⟩ := h
  exact ⟨p, n, c, hv, ho.mono hb, hf⟩
theorem Owns.mono {w : World} {B B' : Nat} (hb : B' ≤ B) : ∀ {vs : List Value} {ds : List D0} {f : List Nat}, Owns w B vs ds f → Owns w B' vs ds f
  | [], [], _, h => h
  | [], _ :: _, _, h => h.elim
  | _ :: _, [], _, h => h.elim
  | _ :: _, _ :: _, _, h => by
    obtain ⟨f1, f2, rfl, h1, h2⟩ := h
    exact ⟨f1, f2, rfl, h1.mono hb, Owns.mono hb h2⟩
theorem Owns.append {w : World} {B : Nat} : ∀ {vs us : List Value} {ds es : List D0} {f g : List Nat}, Owns w B vs ds f → Owns w B us es g → Owns w B (vs ++ us) (ds ++ es) (f ++ g)
  | [], _, [], _, f, g, h, k => by rw [show f = [] from h]; exact k
  | [], _, _ :: _, _, _, _, h, _ => h.elim
  | _ :: _, _, [], _, _, _, h, _ => h.elim
  | _ :: _, _, _ :: _, _, _, g, h, k => by
    obtain ⟨f1, f2, rfl, h1, h2⟩ := h
    exact ⟨f1, f2 ++ g, by simp, h1, Owns.append h2 k⟩
theorem Owns.nil (w : World) (B : Nat) : Owns w B [] [] [] := rfl
theorem Owns.bool (w : World) (B : Nat) (b : Bool) : Owns w B [.bool b] [.bool b] [] := ⟨[], [], rfl, ⟨rfl, rfl⟩, rfl⟩
theorem Owns.int (w : World) (B : Nat) (n : Int) : Owns w B [.int .i64 n] [.int n] [] := ⟨[], [], rfl, ⟨rfl, rfl⟩, rfl⟩
theorem Owns.str (w : World) (B : Nat) (s : ByteArray) : Owns w B [.string s] [.str s] [] := ⟨[], [], rfl, ⟨rfl, rfl⟩, rfl⟩
theorem Owns.ints {w : World} {B : Nat} {p : Option Addr} {n c : Nat} {zs : List Int} (h : Own w B T_int 1 p n c (zs.map (Value.int .i64))) : Owns w B [.slice p n c] [.ints zs] (p.map (·.block)).toList :=
  ⟨_, [], by simp, ⟨p, n, c, rfl, h, rfl⟩, rfl⟩
theorem nodup_append {f g : List Nat} {m : Nat} (hf : f.Nodup) (hg : g.Nodup) (h1 : ∀ k ∈ f, k < m) (h2 : ∀ k ∈ g, m ≤ k) : (f ++ g).Nodup := by
  rw [List.nodup_append]
  exact ⟨hf, hg, fun a ha b hb e => by have := h1 a ha; have := h2 b hb; omega⟩
theorem Blk.loadAt {P : Program} {w : World} {t : TypeId} {b : Nat} {e : TypeId} {cs : List Value} {v : Value} {a : Addr} (k : Nat) (h : Blk w b e cs) (ha : a = ⟨b, k, none⟩) (ht : cellT P t = true) (hx : cs[k]? = some v) : Loads P t a v w := by
  subst ha; exact h.load0 ht hx
theorem Blk.loadAAt {P : Program} {w : World} {t : TypeId} {b : Nat} {e : TypeId} {cs : List Value} {a : Addr} (k : Nat) (xs : List Value) (h : Blk w b e cs) (ha : a = ⟨b, k, none⟩) (ht : aggT P t xs.length = true) (hx : (cs.drop k).take xs.length = xs) : Loads P t a (.agg ⟨xs⟩) w := by
  subst ha
  have := h.loadA (P := P) (k := k) ht hx
  rwa [addr_add, Nat.zero_add] at this
theorem Seg.loadAt {P : Program} {w : World} {t : TypeId} {b o : Nat} {cs : List Value} {v : Value} {a : Addr} (k : Nat) (h : Seg w b o cs) (ha : a = ⟨b, o + k, none⟩) (ht : cellT P t = true) (hx : cs[k]? = some v) : Loads P t a v w := by
  subst ha; exact loads1 ht (h _ _ hx)
theorem Seg.loadAAt {P : Program} {w : World} {t : TypeId} {b o : Nat} {cs : List Value} {a : Addr} (k : Nat) (xs : List Value) (h : Seg w b o cs) (ha : a = ⟨b, o + k, none⟩) (ht : aggT P t xs.length = true) (hx : (cs.drop k).take xs.length = xs) : Loads P t a (.agg ⟨xs⟩) w := by
  subst ha
  have := h.loadA (P := P) (k := k) ht hx
  rwa [addr_add] at this
theorem New.fill {P : Program} {w w1 : World} {zs : List Value} {e : TypeId} {r : Nat} (hn : New w (.cells ⟨zs⟩ e (0, 0)) r w1) {t : TypeId} {xs : List Value} (hv : ∀ v ∈ xs, v.oneCell' = true) (ht : aggT P t xs.length = true) (hl : xs.length = zs.length) :
    ∃ w2, Stores P t ⟨r, 0, none⟩ (.agg ⟨xs⟩) w1 w2 ∧ Blk w2 r e xs ∧ Ext w w2 := by
  obtain ⟨w2, st, hb, ch, sz⟩ := hn.blk.storeA0 (P := P) (t := t) ht hl hv
  exact ⟨w2, st, hb, hn.ext.chg ch (by have := hn.r_eq; simp; omega)⟩
def AllO (w : World) (B k : Nat) : List (List Value) → List (List D0) → List (List Nat) → Prop
  | [], [], [] => True
  | cs :: css, x :: l, f :: fs => cs.length = k ∧ Owns w B cs x f ∧ AllO w B k css l fs
  | _, _, _ => False
theorem AllO.ext {w w' : World} {B k : Nat} : ∀ {css : List (List Value)} {l : List (List D0)} {fs : List (List Nat)}, AllO w B k css l fs → Ext w w' → AllO w' B k css l fs
  | [], [], [], _, _ => trivial
  | _ :: _, _ :: _, _ :: _, h, he => ⟨h.1, h.2.1.ext he, AllO.ext h.2.2 he⟩
  | [], [], _ :: _, h, _ => h.elim
  | [], _ :: _, _, h, _ => h.elim
  | _ :: _, [], _, h, _ => h.elim
  | _ :: _, _ :: _, [], h, _ => h.elim
theorem AllO.chg {S : List Nat} {w w' : World} {B k : Nat} : ∀ {css : List (List Value)} {l : List (List D0)} {fs : List (List Nat)}, AllO w B k css l fs → Chg S w w' → (∀ x ∈ fs.flatten, x ∉ S) → AllO w' B k css l fs
  | [], [], [], _, _, _ => trivial
  | _ :: _, _ :: _, _ :: _, h, he, hS => ⟨h.1, h.2.1.chg he (fun x hx => hS x (by simp [hx])), AllO.chg h.2.2 he (fun x hx => hS x (by rw [List.flatten_cons]; exact List.mem_append_right _ hx))⟩
  | [], [], _ :: _, h, _, _ => h.elim
  | [], _ :: _, _, h, _, _ => h.elim
  | _ :: _, [], _, h, _, _ => h.elim
  | _ :: _, _ :: _, [], h, _, _ => h.elim
theorem AllO.mono {w : World} {B B' k : Nat} (hb : B' ≤ B) : ∀ {css : List (List Value)} {l : List (List D0)} {fs : List (List Nat)}, AllO w B k css l fs → AllO w B' k css l fs
  | [], [], [], _ => trivial
  | _ :: _, _ :: _, _ :: _, h => ⟨h.1, h.2.1.mono hb, AllO.mono hb h.2.2⟩
  | [], [], _ :: _, h => h.elim
  | [], _ :: _, _, h => h.elim
  | _ :: _, [], _, h => h.elim
  | _ :: _, _ :: _, [], h => h.elim
theorem AllO.lt {w : World} {B k : Nat} : ∀ {css : List (List Value)} {l : List (List D0)} {fs : List (List Nat)}, AllO w B k css l fs → ∀ x ∈ fs.flatten, B ≤ x ∧ x < w.heap.size
  | [], [], [], _, x, hx => by simp at hx
  | _ :: _, _ :: _, _ :: _, h, x, hx => by
    rw [List.flatten_cons, List.mem_append] at hx
    rcases hx with hx | hx
    · exact h.2.1.lt x hx
    · exact AllO.lt h.2.2 x hx
  | [], [], _ :: _, h, _, _ => h.elim
  | [], _ :: _, _, h, _, _ => h.elim
  | _ :: _, [], _, h, _, _ => h.elim
  | _ :: _, _ :: _, [], h, _, _ => h.elim
theorem AllO.snoc {w : World} {B k : Nat} {cs : List Value} {x : List D0} {f : List Nat} (hk : cs.length = k) (ho : Owns w B cs x f) : ∀ {css : List (List Value)} {l : List (List D0)} {fs : List (List Nat)}, AllO w B k css l fs → AllO w B k (css ++ [cs]) (l ++ [x]) (fs ++ [f])
  | [], [], [], _ => ⟨hk, ho, trivial⟩
  | _ :: _, _ :: _, _ :: _, h => ⟨h.1, h.2.1, AllO.snoc hk ho h.2.2⟩
  | [], [], _ :: _, h => h.elim
  | [], _ :: _, _, h => h.elim
  | _ :: _, [], _, h => h.elim
  | _ :: _, _ :: _, [], h => h.elim
theorem AllO.len {w : World} {B k : Nat} : ∀ {css : List (List Value)} {l : List (List D0)} {fs : List (List Nat)}, AllO w B k css l fs → css.length = l.length ∧ css.flatten.length = l.length * k
  | [], [], [], _ => ⟨rfl, by simp⟩
  | cs :: css, x :: l, _ :: _, h => by
    have := AllO.len h.2.2
    refine ⟨by simp [this.1], ?_⟩
    rw [List.flatten_cons, List.length_append, this.2, h.1, List.length_cons, Nat.succ_mul, Nat.add_comm]
  | [], [], _ :: _, h => h.elim
  | [], _ :: _, _, h => h.elim
  | _ :: _, [], _, h => h.elim
  | _ :: _, _ :: _, [], h => h.elim
theorem AllO.cells1 {w : World} {B k : Nat} : ∀ {css : List (List Value)} {l : List (List D0)} {fs : List (List Nat)}, AllO w B k css l fs → ∀ v ∈ css.flatten, v.oneCell' = true
  | [], [], [], _, v, hv => by simp at hv
  | _ :: _, _ :: _, _ :: _, h, v, hv => by
    rw [List.flatten_cons, List.mem_append] at hv
    rcases hv with hv | hv
    · exact h.2.1.reps.cells1 v hv
    · exact AllO.cells1 h.2.2 v hv
  | [], [], _ :: _, h, _, _ => h.elim
  | [], _ :: _, _, h, _, _ => h.elim
  | _ :: _, [], _, h, _, _ => h.elim
  | _ :: _, _ :: _, [], h, _, _ => h.elim
theorem AllO.at {w : World} {B k : Nat} : ∀ {css : List (List Value)} {l : List (List D0)} {fs : List (List Nat)}, AllO w B k css l fs → ∀ i x, l[i]? = some x → ∃ cs, cs.length = k ∧ Reps w cs x ∧ (css.flatten.drop (i * k)).take k = cs
  | [], [], [], _, i, x, hx => by simp at hx
  | cs :: css, y :: l, _ :: _, h, i, x, hx => by
    cases i with
    | zero =>
      simp only [List.getElem?_cons_zero, Option.some.injEq] at hx
      subst hx
      refine ⟨cs, h.1, h.2.1.reps, ?_⟩
      rw [Nat.zero_mul, List.drop_zero, List.flatten_cons, ← h.1, List.take_left]
    | succ i =>
      simp only [List.getElem?_cons_succ] at hx
      obtain ⟨c, h1, h2, h3⟩ := AllO.at h.2.2 i x hx
      refine ⟨c, h1, h2, ?_⟩
      rw [List.flatten_cons, Nat.succ_mul, Nat.add_comm, ← List.drop_drop, ← h.1, List.drop_left, h.1]
      exact h3
  | [], [], _ :: _, h, _, _, _ => h.elim
  | [], _ :: _, _, h, _, _, _ => h.elim
  | _ :: _, [], _, h, _, _, _ => h.elim
  | _ :: _, _ :: _, [], h, _, _, _ => h.elim
def OwnRows (w : World) (B : Nat) (e : TypeId) (k : Nat) (p : Option Addr) (n c : Nat) (l : List (List D0)) (f : List Nat) : Prop :=
 l.length = n ∧ ∃ css fs, AllO w B k css l fs ∧ Own w B e k p n c css.flatten ∧ f = (p.map (·.block)).toList ++ fs.flatten ∧ f.Nodup
theorem OwnRows.rows {w : World} {B : Nat} {e : TypeId} {k : Nat} {p : Option Addr} {n c : Nat} {l : List (List D0)} {f : List Nat} (h : OwnRows w B e k p n c l f) : RowsR w k p n c l := by
  obtain ⟨hl, css, fs, ha, ho, _, _⟩ := h
  refine ⟨hl, ho.le, ho.capLe, fun hn => ?_⟩
  obtain ⟨b, hp, _, hs⟩ := ho.seg hn
  refine ⟨b, 0, hp, fun i x hx => ?_⟩
  obtain ⟨cs, h1, h2, h3⟩ := ha.at i x hx
  exact ⟨cs, h1, h2, by rw [← h3]; exact (hs.drop (i * k)).take k⟩
theorem OwnRows.lt {w : World} {B : Nat} {e : TypeId} {k : Nat} {p : Option Addr} {n c : Nat} {l : List (List D0)} {f : List Nat} (h : OwnRows w B e k p n c l f) : ∀ x ∈ f, B ≤ x ∧ x < w.heap.size := by
  obtain ⟨hl, css, fs, ha, ho, rfl, _⟩ := h
  intro x hx
  rcases List.mem_append.1 hx with hx | hx
  · exact World.ownsRow.lt ho x (by cases p <;> simp_all [Value.ownBlock])
  · exact ha.lt x hx
theorem OwnRows.ext {w w' : World} {B : Nat} {e : TypeId} {k : Nat} {p : Option Addr} {n c : Nat} {l : List (List D0)} {f : List Nat} (h : OwnRows w B e k p n c l f) (he : Ext w w') : OwnRows w' B e k p n c l f := by
  obtain ⟨hl, css, fs, ha, ho, hf, hn⟩ := h
  exact ⟨hl, css, fs, ha.ext he, ho.ext he, hf, hn⟩
theorem OwnRows.mono {w : World} {B B' : Nat} {e : TypeId} {k : Nat} {p : Option Addr} {n c : Nat} {l : List (List D0)} {f : List Nat} (h : OwnRows w B e k p n c l f) (hb : B' ≤ B) : OwnRows w B' e k p n c l f := by
  obtain ⟨hl, css, fs, ha, ho, hf, hn⟩ := h
  exact ⟨hl, css, fs, ha.mono hb, ho.mono hb, hf, hn⟩
theorem OwnRows.chg {S : List Nat} {w w' : World} {B : Nat} {e : TypeId} {k : Nat} {p : Option Addr} {n c : Nat} {l : List (List D0)} {f : List Nat} (h : OwnRows w B e k p n c l f) (he : Chg S w w') (hS : ∀ x ∈ f, x ∉ S) : OwnRows w' B e k p n c l f := by
  obtain ⟨hl, css, fs, ha, ho, rfl, hn⟩ := h
  exact ⟨hl, css, fs, ha.chg he (fun x hx => hS x (List.mem_append_right _ hx)), ho.chg he (fun x hx => hS x (List.mem_append_left _ (by rw [hx]; simp))), rfl, hn⟩
theorem fill_row {xs cs : List Value} {css : List (List Value)} {j k n : Nat} (hl : xs.length = n * k) (ht : xs.take (j * k) = css.flatten) (hk : cs.length = k) (hj : j < n) :
    j * k + cs.length ≤ xs.length ∧ (xs.take (j * k) ++ cs ++ xs.drop (j * k + cs.length)).length = n * k ∧ (xs.take (j * k) ++ cs ++ xs.drop (j * k + cs.length)).take ((j + 1) * k) = (css ++ [cs]).flatten := by
  have h1 : (j + 1) * k ≤ n * k := Nat.mul_le_mul_right _ (by omega)
  have h2 : (j + 1) * k = j * k + k := Nat.succ_mul j k
  refine ⟨by omega, by simp; omega, ?_⟩
  have h3 : (xs.take (j * k) ++ cs).length = (j + 1) * k := by simp; omega
  rw [List.take_left' h3, ht]
  simp
theorem dec_no {p : Prop} [Decidable p] (h : ¬ p) : Value.bool false = Value.bool (decide p) := by simp [h]
theorem dec_yes {p : Prop} [Decidable p] (h : p) : Value.bool true = Value.bool (decide p) := by simp [h]
end Go.Proofs.YtfehpaekbbmkcaaGreatDoor.Sx

namespace Go.Proofs.YtfehpaekbbmkcaaGreatDoor
open Go Go.Proofs.YtfehpaekbbmkcaaGreatDoor.Sx
set_option linter.unusedVariables false
set_option linter.unusedSimpArgs false
theorem take_set {α : Type} (l : List α) (d v : α) (k : Nat) (hk : k < l.length) (n : Nat) (hn : 0 < n) (h : l[k]? = some v) :
    (l.take k ++ List.replicate n d).set k v = l.take (k + 1) ++ List.replicate (n - 1) d := by
  have hlen : (l.take k).length = k := by simp; omega
  rw [List.set_append_right _ _ (by omega), hlen, Nat.sub_self]
  obtain ⟨m, rfl⟩ : ∃ m, n = m + 1 := ⟨n - 1, by omega⟩
  rw [List.replicate_succ, List.set_cons_zero, List.take_add_one, h]
  simp
theorem laws_toIntS_c {w : World} {p : Option Addr} {n c : Nat} {zs : List Int} (h : IntsR w p n c zs) (hn : n ≤ 1048576) :
    Ret P n_laws_toIntS [.slice p n c] w fun v w' => ∃ r, v = .slice (some ⟨r, 0, none⟩) n n ∧ Own w' w.heap.size T_int 1 (some ⟨r, 0, none⟩) n n (zs.map (Value.int .i64)) ∧ Ext w w' := by
  refine laws_toIntS_ret ?_
  unfold laws_toIntS
  refine ⟨⟨by omega, by omega, by omega⟩, fun r w1 hnew => ?_⟩
  have hlen := h.1
  refine ⟨fun i wr => ∃ k : Nat, i = k ∧ k ≤ n ∧ Ext w wr ∧ Blk wr r T_int ((zs.map (Value.int .i64)).take k ++ List.replicate (n - k) (Value.int .i64 0)), fun i _ => n - i.toNat, ⟨0, rfl, by omega, hnew.ext, ?_⟩, ?_⟩
  · have := hnew.blk
    rw [zeroRow_int, Nat.mul_one] at this
    simpa using this
  · intro junk wr i ⟨k, hik, hk, hx, hb⟩
    subst hik
    refine ifD (fun hlt => ?_) (fun hge => ?_)
    · have hlt' : k < n := by omega
      obtain ⟨a, rfl, hl⟩ := (h.ext hx).at (P := P) (t := T_int) (by kernel_rfl) hlt'
      have hl2 : ((zs.map (Value.int .i64)).take k ++ List.replicate (n - k) (Value.int .i64 0)).length = n := by simp; omega
      obtain ⟨w2, hst, hb2, hc, hs⟩ := hb.store (P := P) (t := T_int) (k := k) (v := .int .i64 (zs[k]'(by omega))) (by kernel_rfl) (by omega) rfl
      refine ⟨⟨by omega, by omega⟩, zs[k]'(by omega), by simpa using hl, ⟨by omega, by omega⟩, w2, by simpa using hst, exW ⟨by omega, by omega⟩ ⟨⟨k + 1, by omega, by omega, hx.chg hc (by simp; have := hnew.r_eq; omega), ?_⟩, by simp; omega⟩⟩
      rw [take_set _ _ _ _ (by simp; omega) _ (by omega) (by simp [show k < zs.length by omega])] at hb2
      rwa [show n - (k + 1) = n - k - 1 by omega]
    · have hkn : k = n := by omega
      subst hkn
      refine ⟨r, rfl, ?_, hx⟩
      rw [Nat.sub_self, List.replicate_zero, List.append_nil, List.take_of_length_le (by simp; omega)] at hb
      exact Own.of_blk hb (by have := hnew.r_eq; omega) (by simp; omega) (by simp only [maxLen]; omega)
theorem laws_szIntS_c {w : World} {p : Option Addr} {n c : Nat} {left : Int} (h0 : 0 ≤ left) (h1 : left ≤ 1048576) (hn : n ≤ 9223372036854775807) :
    Ret P n_laws_szIntS [.slice p n c, .int .i64 left] w fun v w' => ∃ r : Int, v = .int .i64 r ∧ (0 ≤ r → r + n ≤ left) ∧ r ≤ 1048576 ∧ Ext w w' := by
  refine laws_szIntS_ret ?_
  unfold laws_szIntS
  refine exW ⟨by omega, by omega⟩ (ifD (fun h => ⟨_, rfl, by omega, by omega, Ext.refl _⟩) (fun h => ⟨_, rfl, by omega, by omega, Ext.refl _⟩))
theorem laws_eqIntS_c {w : World} {p q : Option Addr} {n c m d : Nat} {zs ys : List Int} (h : IntsR w p n c zs) (k : IntsR w q m d ys) :
    Ret P n_laws_eqIntS [.slice p n c, .slice q m d] w fun v w' => v = .bool (decide (zs = ys)) ∧ Ext w w' := by
  refine laws_eqIntS_ret ?_
  unfold laws_eqIntS
  have hn : n ≤ 9223372036854775807 := Nat.le_trans h.2.1 h.2.2.1
  have hz := h.1
  have hy := k.1
  refine ifD (fun hne => ⟨?_, Ext.refl _⟩) (fun heq => ?_)
  · have : zs ≠ ys := fun e => hne (by rw [← hz, ← hy, e])
    simp [this]
  · have hnm : n = m := by omega
    refine ⟨fun i wr => ∃ j : Nat, i = j ∧ j ≤ n ∧ Ext w wr ∧ zs.take j = ys.take j, fun i _ => n - i.toNat, ⟨0, rfl, by omega, Ext.refl _, by simp⟩, ?_⟩
    intro junk wr i ⟨j, hij, hj, hx, he⟩
    subst hij
    refine ifD (fun hlt => ?_) (fun hge => ⟨?_, hx⟩)
    · have hjn : j < n := by omega
      have hx' := hx.trans (Ext.drew wr)
      obtain ⟨a, hpa, _⟩ := (h.ext hx').at (P := P) (t := T_int) (by kernel_rfl) hjn
      obtain ⟨b, hqb, _⟩ := (k.ext hx').at (P := P) (t := T_int) (by kernel_rfl) (show j < m by omega)
      subst hpa
      subst hqb
      have l1 : ∀ w', Ext wr.drew w' → Loads P T_int (a.add ((j : Int).toNat * 1)) (.int .i64 (zs[j]'(by omega))) w' := fun w' hw => by
        obtain ⟨a', ha, hl⟩ := ((h.ext hx').ext hw).at (P := P) (t := T_int) (by kernel_rfl) hjn
        cases ha
        simpa using hl
      have l2 : ∀ w', Ext wr.drew w' → Loads P T_int (b.add ((j : Int).toNat * 1)) (.int .i64 (ys[j]'(by omega))) w' := fun w' hw => by
        obtain ⟨a', ha, hl⟩ := ((k.ext hx').ext hw).at (P := P) (t := T_int) (by kernel_rfl) (show j < m by omega)
        cases ha
        simpa using hl
      refine ⟨⟨by omega, by omega⟩, _, l1, ⟨by omega, by omega⟩, _, l2, ifD (fun hne => ⟨?_, hx'⟩) (fun heq2 => ?_)⟩
      · have : zs ≠ ys := fun e => hne (by subst e; rfl)
        simp [this]
      · refine exW ⟨by omega, by omega⟩ ⟨⟨j + 1, by omega, by omega, hx', ?_⟩, by simp; omega⟩
        have e2 : zs[j]'(by omega) = ys[j]'(by omega) := by simpa using heq2
        rw [List.take_add_one, List.take_add_one, he, List.getElem?_eq_getElem (by omega), List.getElem?_eq_getElem (by omega), e2]
    · have hjn : j = n := by omega
      subst hjn
      rw [List.take_of_length_le (by omega), List.take_of_length_le (by omega)] at he
      simp [he]
end Go.Proofs.YtfehpaekbbmkcaaGreatDoor
