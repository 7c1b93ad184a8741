/-
  Parts of the proof of sharesEven_holds: GData, DInts, DS, CBase, CShareS, CShareT, CInt, CNum, CNat, SxMark, SxPush, SxIns, CShareB, CAdd, CMul, CDivA, CDivB, CSigned, CIntAdd.
  Conditions: none.
-/
import Derived.Laws.CopyRow
import Derived.Laws.OwnMore
import Derived.Laws.BytesArg
import Derived.Laws.Externs
import Derived.Lib.AppendZerosOnto
import Derived.Lib.Overlaps
import Derived.Test.YtbgokfhcgcoipaaGreatSe2
set_option linter.unusedVariables false
set_option linter.unusedSimpArgs false
namespace Go.RowKit
end Go.RowKit

namespace Go.Proofs.YtbgokfhcgcoipaaGreat
variable {w : World} {R : Value -> World -> Prop}
open Go Go.Proofs.YtbgokfhcgcoipaaGreat.Sx
set_option maxRecDepth 100000
def laws_szSigned (a0 : Bool) (a1 : Option Addr) (a2 a3 : Nat) (left : Int) (w : World) (R : Value -> World -> Prop) : Prop :=
 ∀ r wv, New w (.cells ⟨[.bool a0, .slice a1 a2 a3]⟩ 24 (0, 0)) r wv ->
 ∃ a4 a5 a6, Loads P 22 ((⟨r, 0, none⟩ : Addr).add 1) (.slice a4 a5 a6) wv /\ Calls P 13 ⟨[.slice a4 a5 a6, .int .i64 left]⟩ wv fun e a7 =>
 ∃ t8, e = .returned (.int .i64 t8) /\
 ((decide ((t8 : Int) < 0)) = true ->
 R (.int .i64 (-1)) a7) /\
 ((decide ((t8 : Int) < 0)) = false ->
 R (.int .i64 t8) a7)
theorem laws_szSigned_ret {a0 : Bool} {a : Option Addr} {a1 a2 : Nat} {a3 : Int} (h : laws_szSigned a0 a a1 a2 a3 w R) : Ret P 4 [.agg #[.bool a0, .slice a a1 a2], .int .i64 a3] w R := Ret.of_fsem Tryz.func4 rfl (Eq.mp (show _ = fsem P Tryz.f4 (fun k => []) _ R w from by kernel_rfl) h)
def laws_toSigned (a0 : Bool) (a1 : Option Addr) (a2 a3 : Nat) (w : World) (R : Value -> World -> Prop) : Prop :=
 ∀ r wv, New w (.cells ⟨[.bool a0, .slice a1 a2 a3]⟩ 24 (0, 0)) r wv ->
 ∀ a4 a5, New wv (.cells ⟨[.bool false, .slice none 0 0]⟩ 29 (0, 0)) a4 a5 ->
 ∀ a6 a7, New a5 (.cells ⟨[.bool false, .slice none 0 0]⟩ 29 (0, 0)) a6 a7 ->
 ∃ t5, Loads P 4 ((⟨r, 0, none⟩ : Addr).add 0) (.bool t5) a7 /\ ∃ wv_3, Stores P 4 ((⟨a6, 0, none⟩ : Addr).add 0) (.bool t5) a7 wv_3 /\
 ∃ a8 a9 aa, Loads P 22 ((⟨r, 0, none⟩ : Addr).add 1) (.slice a8 a9 aa) wv_3 /\ Calls P 16 ⟨[.slice a8 a9 aa]⟩ wv_3 fun e ab =>
 ∃ ac ae af, e = .returned (.slice ac ae af) /\
 ∃ wv_5, Stores P 22 ((⟨a6, 0, none⟩ : Addr).add 1) (.slice ac ae af) ab wv_5 /\
 ∃ ag ah ai aj, Loads P 29 ⟨a6, 0, none⟩ (.agg #[.bool ag, .slice ah ai aj]) wv_5 /\ ∃ wv_6, Stores P 29 ⟨a4, 0, none⟩ (.agg #[.bool ag, .slice ah ai aj]) wv_5 wv_6 /\
 ∃ r0 ak al am, Loads P 29 ⟨a4, 0, none⟩ (.agg #[.bool r0, .slice ak al am]) wv_6 /\ R (.agg #[.bool r0, .slice ak al am]) wv_6
theorem laws_toSigned_ret {a0 : Bool} {a : Option Addr} {a1 a2 : Nat} (h : laws_toSigned a0 a a1 a2 w R) : Ret P 6 [.agg #[.bool a0, .slice a a1 a2]] w R := Ret.of_fsem Tryz.func6 rfl (Eq.mp (show _ = fsem P Tryz.f6 (fun k => []) _ R w from by kernel_rfl) h)
def laws_eqSignedS (a0 : Option Addr) (a1 a2 : Nat) (a3 : Option Addr) (a4 a5 : Nat) (w : World) (R : Value -> World -> Prop) : Prop :=
 ((decide ((((a1 : Nat) : Int) : Int) ≠ ((a4 : Nat) : Int))) = true ->
 R (.bool false) w) /\
 ((decide ((((a1 : Nat) : Int) : Int) ≠ ((a4 : Nat) : Int))) = false ->
 ∃ (a6 : Int -> World -> Prop) (mu : Int -> World -> Nat), a6 0 w /\
 ∀ (a7 : Fr) (wv : World) (i : Int), a6 i wv ->
 ((decide ((i : Int) < ((a1 : Nat) : Int))) = true ->
 (0 <= (i : Int) /\ (i : Int) < (a1 : Nat)) /\ ptrS a0 fun ad => ∃ a8 a9 aa ab, (∀ wv_1, Ext wv.drew wv_1 -> Loads P 29 (ad.add (i.toNat * 2)) (.agg #[.bool a8, .slice a9 aa ab]) wv_1) /\ (0 <= (i : Int) /\ (i : Int) < (a4 : Nat)) /\ ptrS a3 fun ac => ∃ ae af ag ah, (∀ wv_2, Ext wv.drew wv_2 -> Loads P 29 (ac.add (i.toNat * 2)) (.agg #[.bool ae, .slice af ag ah]) wv_2) /\ Calls P 9 ⟨[.agg #[.bool a8, .slice a9 aa ab], .agg #[.bool ae, .slice af ag ah]]⟩ wv.drew fun e ai =>
 ∃ aj, e = .returned (.bool aj) /\
 ((!aj) = true ->
 R (.bool false) ai) /\
 ((!aj) = false ->
 ∃ ak : Int, ak = IntKind.wrap .i64 (i + 1) /\ a6 ak ai /\ mu ak ai < mu i wv)) /\
 ((decide ((i : Int) < ((a1 : Nat) : Int))) = false ->
 R (.bool true) wv))
theorem laws_eqSignedS_ret {a : Option Addr} {a0 a1 : Nat} {a2 : Option Addr} {a3 a4 : Nat} (h : laws_eqSignedS a a0 a1 a2 a3 a4 w R) : Ret P 8 [.slice a a0 a1, .slice a2 a3 a4] w R := Ret.of_fsem Tryz.func8 rfl (Eq.mp (show _ = fsem P Tryz.f8 (fun k => cond (Nat.beq k 5) [(5, .one (.int .i64))] ([])) _ R w from by kernel_rfl) h)
def laws_eqSigned (a0 : Bool) (a1 : Option Addr) (a2 a3 : Nat) (b0 : Bool) (a4 : Option Addr) (a5 a6 : Nat) (w : World) (R : Value -> World -> Prop) : Prop :=
 ∀ r wv, New w (.cells ⟨[.bool a0, .slice a1 a2 a3]⟩ 29 (0, 0)) r wv ->
 ∀ a7 a8, New wv (.cells ⟨[.bool b0, .slice a4 a5 a6]⟩ 29 (0, 0)) a7 a8 ->
 ∃ t6, Loads P 4 ((⟨r, 0, none⟩ : Addr).add 0) (.bool t6) a8 /\ ∃ t8, Loads P 4 ((⟨a7, 0, none⟩ : Addr).add 0) (.bool t8) a8 /\ ((!(t6 == t8)) = true ->
 R (.bool false) a8) /\
 ((!(t6 == t8)) = false ->
 ∃ a9 aa ab, Loads P 22 ((⟨r, 0, none⟩ : Addr).add 1) (.slice a9 aa ab) a8 /\ ∃ ac ae af, Loads P 22 ((⟨a7, 0, none⟩ : Addr).add 1) (.slice ac ae af) a8 /\ Calls P 19 ⟨[.slice a9 aa ab, .slice ac ae af]⟩ a8 fun e ag =>
 ∃ ah, e = .returned (.bool ah) /\
 ((!ah) = true ->
 R (.bool false) ag) /\
 ((!ah) = false ->
 R (.bool true) ag))
theorem laws_eqSigned_ret {a0 : Bool} {a : Option Addr} {a1 a2 : Nat} {b0 : Bool} {a3 : Option Addr} {a4 a5 : Nat} (h : laws_eqSigned a0 a a1 a2 b0 a3 a4 a5 w R) : Ret P 9 [.agg #[.bool a0, .slice a a1 a2], .agg #[.bool b0, .slice a3 a4 a5]] w R := Ret.of_fsem Tryz.func9 rfl (Eq.mp (show _ = fsem P Tryz.f9 (fun k => []) _ R w from by kernel_rfl) h)
def laws_markSigned (a0 : Bool) (a1 : Option Addr) (a2 a3 : Nat) (k : Int) (w : World) (R : Value -> World -> Prop) : Prop :=
 ∀ r wv, New w (.cells ⟨[.bool a0, .slice a1 a2 a3]⟩ 29 (0, 0)) r wv ->
 ∃ a4 a5 a6, Loads P 22 ((⟨r, 0, none⟩ : Addr).add 1) (.slice a4 a5 a6) wv /\ Calls P 20 ⟨[.slice a4 a5 a6, .int .i64 k]⟩ wv fun e a7 =>
 ∃ t8, e = .returned (.int .i64 t8) /\
 R (.int .i64 t8) a7
theorem laws_markSigned_ret {a0 : Bool} {a : Option Addr} {a1 a2 : Nat} {k : Int} (h : laws_markSigned a0 a a1 a2 k w R) : Ret P 10 [.agg #[.bool a0, .slice a a1 a2], .int .i64 k] w R := Ret.of_fsem Tryz.func10 rfl (Eq.mp (show _ = fsem P Tryz.f10 (fun k => []) _ R w from by kernel_rfl) h)
def laws_markSignedS (a0 : Option Addr) (a1 a2 : Nat) (k : Int) (w : World) (R : Value -> World -> Prop) : Prop :=
 ∃ (a3 : Int -> Int -> World -> Prop) (mu : Int -> Int -> World -> Nat), a3 k 0 w /\
 ∀ (a4 : Fr) (wv : World) (k_1 i : Int), a3 k_1 i wv ->
 ((decide ((i : Int) < ((a1 : Nat) : Int))) = true ->
 (3 : Int) ≠ 0 /\ ∃ a5 : Int, a5 = Int.tmod k_1 3 /\ (0 <= (i : Int) /\ (i : Int) < (a1 : Nat)) /\ ptrS a0 fun ad => ∃ wv_1, Stores P 4 ((ad.add (i.toNat * 2)).add 0) (.bool (decide ((a5 : Int) = 0))) wv wv_1 /\
 ∃ a6 : Int, a6 = IntKind.wrap .i64 (k_1 + 1) /\ (0 <= (i : Int) /\ (i : Int) < (a1 : Nat)) /\ ptrS a0 fun a7 => ∃ a8 a9 aa, Loads P 22 ((a7.add (i.toNat * 2)).add 1) (.slice a8 a9 aa) wv_1 /\ Calls P 20 ⟨[.slice a8 a9 aa, .int .i64 a6]⟩ wv_1 fun e ab =>
 ∃ ac, e = .returned (.int .i64 ac) /\
 ∃ ae : Int, ae = IntKind.wrap .i64 (i + 1) /\ a3 ac ae ab /\ mu ac ae ab < mu k_1 i wv) /\
 ((decide ((i : Int) < ((a1 : Nat) : Int))) = false ->
 R (.int .i64 k_1) wv)
theorem laws_markSignedS_ret {a : Option Addr} {a0 a1 : Nat} {k : Int} (h : laws_markSignedS a a0 a1 k w R) : Ret P 11 [.slice a a0 a1, .int .i64 k] w R := Ret.of_fsem Tryz.func11 rfl (Eq.mp (show _ = fsem P Tryz.f11 (fun k => cond (Nat.beq k 3) [(1, .one (.int .i64)), (5, .one (.int .i64))] ([])) _ R w from by kernel_rfl) h)
def laws_heldSignedS (a0 : Option Addr) (a1 a2 : Nat) (k : Int) (w : World) (R : Value -> World -> Prop) : Prop :=
 ∃ (a3 : Int -> Int -> World -> Prop) (mu : Int -> Int -> World -> Nat), a3 k 0 w /\
 ∀ (a4 : Fr) (wv : World) (k_1 i : Int), a3 k_1 i wv ->
 ((decide ((i : Int) < ((a1 : Nat) : Int))) = true ->
 (0 <= (i : Int) /\ (i : Int) < (a1 : Nat)) /\ ptrS a0 fun ad => ∃ a5, Loads P 4 ((ad.add (i.toNat * 2)).add 0) (.bool a5) wv /\ (3 : Int) ≠ 0 /\ ∃ a6 : Int, a6 = Int.tmod k_1 3 /\ ((!(a5 == (decide ((a6 : Int) = 0)))) = true ->
 R (.int .i64 (-1)) wv) /\
 ((!(a5 == (decide ((a6 : Int) = 0)))) = false ->
 ∃ a7 : Int, a7 = IntKind.wrap .i64 (k_1 + 1) /\ (0 <= (i : Int) /\ (i : Int) < (a1 : Nat)) /\ ptrS a0 fun a8 => ∃ a9 aa ab, Loads P 22 ((a8.add (i.toNat * 2)).add 1) (.slice a9 aa ab) wv /\ Calls P 21 ⟨[.slice a9 aa ab, .int .i64 a7]⟩ wv fun e ac =>
 ∃ ae, e = .returned (.int .i64 ae) /\
 ((decide ((ae : Int) < 0)) = true ->
 R (.int .i64 (-1)) ac) /\
 ((decide ((ae : Int) < 0)) = false ->
 ∃ af : Int, af = IntKind.wrap .i64 (i + 1) /\ a3 ae af ac /\ mu ae af ac < mu k_1 i wv))) /\
 ((decide ((i : Int) < ((a1 : Nat) : Int))) = false ->
 R (.int .i64 k_1) wv)
theorem laws_heldSignedS_ret {a : Option Addr} {a0 a1 : Nat} {k : Int} (h : laws_heldSignedS a a0 a1 k w R) : Ret P 12 [.slice a a0 a1, .int .i64 k] w R := Ret.of_fsem Tryz.func12 rfl (Eq.mp (show _ = fsem P Tryz.f12 (fun k => cond (Nat.beq k 3) [(1, .one (.int .i64)), (5, .one (.int .i64))] ([])) _ R w from by kernel_rfl) h)
def laws_szIntS (a0 : Option Addr) (a1 a2 : Nat) (left : Int) (w : World) (R : Value -> World -> Prop) : Prop :=
 ∃ t8 : Int, t8 = IntKind.wrap .i64 (left - ((a1 : Nat) : Int)) /\ ((decide ((t8 : Int) < 0)) = true ->
 R (.int .i64 (-1)) w) /\
 ((decide ((t8 : Int) < 0)) = false ->
 R (.int .i64 t8) w)
theorem laws_szIntS_ret {a : Option Addr} {a0 a1 : Nat} {a2 : Int} (h : laws_szIntS a a0 a1 a2 w R) : Ret P 13 [.slice a a0 a1, .int .i64 a2] w R := Ret.of_fsem Tryz.func13 rfl (Eq.mp (show _ = fsem P Tryz.f13 (fun k => []) _ R w from by kernel_rfl) h)
def laws_toIntS (a0 : Option Addr) (a1 a2 : Nat) (w : World) (R : Value -> World -> Prop) : Prop :=
 (0 <= (((a1 : Nat) : Int) : Int) /\ (((a1 : Nat) : Int) : Int) <= ((a1 : Nat) : Int) /\ ((8 : Nat) : Int) * ((a1 : Nat) : Int) <= 281474976710656) /\
 ∀ r wv, New w (.cells ⟨zeroRow (.int .i64 0) (a1 * 1)⟩ 3 (0, 0)) r wv ->
 ∃ (a3 : Int -> World -> Prop) (mu : Int -> World -> Nat), a3 0 wv /\
 ∀ (a4 : Fr) (a5 : World) (i : Int), a3 i a5 ->
 ((decide ((i : Int) < ((a1 : Nat) : Int))) = true ->
 (0 <= (i : Int) /\ (i : Int) < (a1 : Nat)) /\ ptrS a0 fun ad => ∃ a6, Loads P 3 (ad.add (i.toNat * 1)) (.int .i64 a6) a5 /\ (0 <= (i : Int) /\ (i : Int) < (a1 : Nat)) /\ ∃ wv_2, Stores P 3 ((⟨r, 0, none⟩ : Addr).add (i.toNat * 1)) (.int .i64 a6) a5 wv_2 /\
 ∃ a7 : Int, a7 = IntKind.wrap .i64 (i + 1) /\ a3 a7 wv_2 /\ mu a7 wv_2 < mu i a5) /\
 ((decide ((i : Int) < ((a1 : Nat) : Int))) = false ->
 R (.slice (some ⟨r, 0, none⟩) a1 a1) a5)
theorem laws_toIntS_ret {a : Option Addr} {a0 a1 : Nat} (h : laws_toIntS a a0 a1 w R) : Ret P 16 [.slice a a0 a1] w R := Ret.of_fsem Tryz.func16 rfl (Eq.mp (show _ = fsem P Tryz.f16 (fun k => cond (Nat.beq k 4) [(4, .one (.int .i64))] ([])) _ R w from by kernel_rfl) h)
def laws_eqIntS (a0 : Option Addr) (a1 a2 : Nat) (a3 : Option Addr) (a4 a5 : Nat) (w : World) (R : Value -> World -> Prop) : Prop :=
 ((decide ((((a1 : Nat) : Int) : Int) ≠ ((a4 : Nat) : Int))) = true ->
 R (.bool false) w) /\
 ((decide ((((a1 : Nat) : Int) : Int) ≠ ((a4 : Nat) : Int))) = false ->
 ∃ (a6 : Int -> World -> Prop) (mu : Int -> World -> Nat), a6 0 w /\
 ∀ (a7 : Fr) (wv : World) (i : Int), a6 i wv ->
 ((decide ((i : Int) < ((a1 : Nat) : Int))) = true ->
 (0 <= (i : Int) /\ (i : Int) < (a1 : Nat)) /\ ptrS a0 fun ad => ∃ a8, (∀ wv_1, Ext wv.drew wv_1 -> Loads P 3 (ad.add (i.toNat * 1)) (.int .i64 a8) wv_1) /\ (0 <= (i : Int) /\ (i : Int) < (a4 : Nat)) /\ ptrS a3 fun a9 => ∃ aa, (∀ wv_2, Ext wv.drew wv_2 -> Loads P 3 (a9.add (i.toNat * 1)) (.int .i64 aa) wv_2) /\ ((decide ((a8 : Int) ≠ aa)) = true ->
 R (.bool false) wv.drew) /\
 ((decide ((a8 : Int) ≠ aa)) = false ->
 ∃ ab : Int, ab = IntKind.wrap .i64 (i + 1) /\ a6 ab wv.drew /\ mu ab wv.drew < mu i wv)) /\
 ((decide ((i : Int) < ((a1 : Nat) : Int))) = false ->
 R (.bool true) wv))
theorem laws_eqIntS_ret {a : Option Addr} {a0 a1 : Nat} {a2 : Option Addr} {a3 a4 : Nat} (h : laws_eqIntS a a0 a1 a2 a3 a4 w R) : Ret P 19 [.slice a a0 a1, .slice a2 a3 a4] w R := Ret.of_fsem Tryz.func19 rfl (Eq.mp (show _ = fsem P Tryz.f19 (fun k => cond (Nat.beq k 5) [(5, .one (.int .i64))] ([])) _ R w from by kernel_rfl) h)
def laws_markIntS (a0 : Option Addr) (a1 a2 : Nat) (k : Int) (w : World) (R : Value -> World -> Prop) : Prop :=
 ∃ (a3 : Int -> Int -> World -> Prop) (mu : Int -> Int -> World -> Nat), a3 k 0 w /\
 ∀ (a4 : Fr) (wv : World) (k_1 i : Int), a3 k_1 i wv ->
 ((decide ((i : Int) < ((a1 : Nat) : Int))) = true ->
 (0 <= (i : Int) /\ (i : Int) < (a1 : Nat)) /\ ptrS a0 fun ad => ∃ wv_1, Stores P 3 (ad.add (i.toNat * 1)) (.int .i64 k_1) wv wv_1 /\
 ∃ a5 : Int, a5 = IntKind.wrap .i64 (k_1 + 1) /\ ∃ a6 : Int, a6 = IntKind.wrap .i64 (i + 1) /\ a3 a5 a6 wv_1 /\ mu a5 a6 wv_1 < mu k_1 i wv) /\
 ((decide ((i : Int) < ((a1 : Nat) : Int))) = false ->
 R (.int .i64 k_1) wv)
theorem laws_markIntS_ret {a : Option Addr} {a0 a1 : Nat} {k : Int} (h : laws_markIntS a a0 a1 k w R) : Ret P 20 [.slice a a0 a1, .int .i64 k] w R := Ret.of_fsem Tryz.func20 rfl (Eq.mp (show _ = fsem P Tryz.f20 (fun k => cond (Nat.beq k 3) [(1, .one (.int .i64)), (5, .one (.int .i64))] ([])) _ R w from by kernel_rfl) h)
def laws_heldIntS (a0 : Option Addr) (a1 a2 : Nat) (k : Int) (w : World) (R : Value -> World -> Prop) : Prop :=
 ∃ (a3 : Int -> Int -> World -> Prop) (mu : Int -> Int -> World -> Nat), a3 k 0 w /\
 ∀ (a4 : Fr) (wv : World) (k_1 i : Int), a3 k_1 i wv ->
 ((decide ((i : Int) < ((a1 : Nat) : Int))) = true ->
 (0 <= (i : Int) /\ (i : Int) < (a1 : Nat)) /\ ptrS a0 fun ad => ∃ a5, Loads P 3 (ad.add (i.toNat * 1)) (.int .i64 a5) wv /\ ((decide ((a5 : Int) ≠ k_1)) = true ->
 R (.int .i64 (-1)) wv) /\
 ((decide ((a5 : Int) ≠ k_1)) = false ->
 ∃ a6 : Int, a6 = IntKind.wrap .i64 (k_1 + 1) /\ ∃ a7 : Int, a7 = IntKind.wrap .i64 (i + 1) /\ a3 a6 a7 wv /\ mu a6 a7 wv < mu k_1 i wv)) /\
 ((decide ((i : Int) < ((a1 : Nat) : Int))) = false ->
 R (.int .i64 k_1) wv)
theorem laws_heldIntS_ret {a : Option Addr} {a0 a1 : Nat} {k : Int} (h : laws_heldIntS a a0 a1 k w R) : Ret P 21 [.slice a a0 a1, .int .i64 k] w R := Ret.of_fsem Tryz.func21 rfl (Eq.mp (show _ = fsem P Tryz.f21 (fun k => cond (Nat.beq k 3) [(1, .one (.int .i64)), (5, .one (.int .i64))] ([])) _ R w from by kernel_rfl) h)
end Go.Proofs.YtbgokfhcgcoipaaGreat
namespace Go.Proofs.YtbgokfhcgcoipaaGreat
open Go Go.Proofs.YtbgokfhcgcoipaaGreat.Sx
theorem take_set {α : Type} (l : List α) (d v : α) (k : Nat) (hk : k < l.length) (n : Nat) (hn : 0 < n) (h : l[k]? = some v) :
    (l.take k ++ List.replicate n d).set k v = l.take (k + 1) ++ List.replicate (n - 1) d := by
  have hlen : (l.take k).length = k := by simp; omega
  rw [List.set_append_right _ _ (by omega), hlen, Nat.sub_self]
  obtain ⟨m, rfl⟩ : ∃ m, n = m + 1 := ⟨n - 1, by omega⟩
  rw [List.replicate_succ, List.set_cons_zero, List.take_add_one, h]
  simp
theorem laws_toIntS_c {w : World} {p : Option Addr} {n c : Nat} {zs : List Int} (h : IntsR w p n c zs) (hn : n <= 1048576) :
    Ret P n_laws_toIntS [.slice p n c] w fun v w' => ∃ r, v = .slice (some ⟨r, 0, none⟩) n n /\ Own w' w.heap.size T_int 1 (some ⟨r, 0, none⟩) n n (zs.map (Value.int .i64)) /\ Ext w w' := by
  refine laws_toIntS_ret ?_
  unfold laws_toIntS
  refine ⟨⟨by omega, by omega, by omega⟩, fun r w1 hnew => ?_⟩
  have hlen := h.1
  refine ⟨fun i wr => ∃ k : Nat, i = k /\ k <= n /\ Ext w wr /\ Blk wr r T_int ((zs.map (Value.int .i64)).take k ++ List.replicate (n - k) (Value.int .i64 0)), fun i _ => n - i.toNat, ⟨0, rfl, by omega, hnew.ext, ?_⟩, ?_⟩
  · have := hnew.blk
    rw [zeroRow_int, Nat.mul_one] at this
    simpa using this
  · intro junk wr i ⟨k, hik, hk, hx, hb⟩
    subst hik
    refine ifD (fun hlt => ?_) (fun hge => ?_)
    · have hlt' : k < n := by omega
      obtain ⟨a, rfl, hl⟩ := (h.ext hx).at (P := P) (t := T_int) (by kernel_rfl) hlt'
      have hl2 : ((zs.map (Value.int .i64)).take k ++ List.replicate (n - k) (Value.int .i64 0)).length = n := by simp; omega
      obtain ⟨w2, hst, hb2, hc, hs⟩ := hb.store (P := P) (t := T_int) (k := k) (v := .int .i64 (zs[k]'(by omega))) (by kernel_rfl) (by omega) rfl
      refine ⟨⟨by omega, by omega⟩, zs[k]'(by omega), by simpa using hl, ⟨by omega, by omega⟩, w2, by simpa using hst, exW ⟨by omega, by omega⟩ ⟨⟨k + 1, by omega, by omega, hx.chg hc (by simp; have := hnew.r_eq; omega), ?_⟩, by simp; omega⟩⟩
      rw [take_set _ _ _ _ (by simp; omega) _ (by omega) (by simp [show k < zs.length by omega])] at hb2
      rwa [show n - (k + 1) = n - k - 1 by omega]
    · have hkn : k = n := by omega
      subst hkn
      refine ⟨r, rfl, ?_, hx⟩
      rw [Nat.sub_self, List.replicate_zero, List.append_nil, List.take_of_length_le (by simp; omega)] at hb
      exact Own.of_blk hb (by have := hnew.r_eq; omega) (by simp; omega) (by simp only [maxLen]; omega)
theorem laws_szIntS_c {w : World} {p : Option Addr} {n c : Nat} {left : Int} (h0 : 0 <= left) (h1 : left <= 1048576) (hn : n <= 9223372036854775807) :
    Ret P n_laws_szIntS [.slice p n c, .int .i64 left] w fun v w' => ∃ r : Int, v = .int .i64 r /\ (0 <= r -> r + n <= left) /\ r <= 1048576 /\ Ext w w' := by
  refine laws_szIntS_ret ?_
  unfold laws_szIntS
  refine exW ⟨by omega, by omega⟩ (ifD (fun h => ⟨_, rfl, by omega, by omega, Ext.refl _⟩) (fun h => ⟨_, rfl, by omega, by omega, Ext.refl _⟩))
theorem laws_eqIntS_c {w : World} {p q : Option Addr} {n c m d : Nat} {zs ys : List Int} (h : IntsR w p n c zs) (k : IntsR w q m d ys) :
    Ret P n_laws_eqIntS [.slice p n c, .slice q m d] w fun v w' => v = .bool (decide (zs = ys)) /\ Ext w w' := by
  refine laws_eqIntS_ret ?_
  unfold laws_eqIntS
  have hn : n <= 9223372036854775807 := Nat.le_trans h.2.1 h.2.2.1
  have hz := h.1
  have hy := k.1
  refine ifD (fun hne => ⟨?_, Ext.refl _⟩) (fun heq => ?_)
  · have : zs ≠ ys := fun e => hne (by rw [<- hz, <- hy, e])
    simp [this]
  · have hnm : n = m := by omega
    refine ⟨fun i wr => ∃ j : Nat, i = j /\ j <= n /\ Ext w wr /\ zs.take j = ys.take j, fun i _ => n - i.toNat, ⟨0, rfl, by omega, Ext.refl _, by simp⟩, ?_⟩
    intro junk wr i ⟨j, hij, hj, hx, he⟩
    subst hij
    refine ifD (fun hlt => ?_) (fun hge => ⟨?_, hx⟩)
    · have hjn : j < n := by omega
      have hx' := hx.trans (Ext.drew wr)
      obtain ⟨a, hpa, _⟩ := (h.ext hx').at (P := P) (t := T_int) (by kernel_rfl) hjn
      obtain ⟨b, hqb, _⟩ := (k.ext hx').at (P := P) (t := T_int) (by kernel_rfl) (show j < m by omega)
      subst hpa
      subst hqb
      have l1 : ∀ w', Ext wr.drew w' -> Loads P T_int (a.add ((j : Int).toNat * 1)) (.int .i64 (zs[j]'(by omega))) w' := fun w' hw => by
        obtain ⟨a', ha, hl⟩ := ((h.ext hx').ext hw).at (P := P) (t := T_int) (by kernel_rfl) hjn
        cases ha
        simpa using hl
      have l2 : ∀ w', Ext wr.drew w' -> Loads P T_int (b.add ((j : Int).toNat * 1)) (.int .i64 (ys[j]'(by omega))) w' := fun w' hw => by
        obtain ⟨a', ha, hl⟩ := ((k.ext hx').ext hw).at (P := P) (t := T_int) (by kernel_rfl) (show j < m by omega)
        cases ha
        simpa using hl
      refine ⟨⟨by omega, by omega⟩, _, l1, ⟨by omega, by omega⟩, _, l2, ifD (fun hne => ⟨?_, hx'⟩) (fun heq2 => ?_)⟩
      · have : zs ≠ ys := fun e => hne (by subst e; rfl)
        simp [this]
      · refine exW ⟨by omega, by omega⟩ ⟨⟨j + 1, by omega, by omega, hx', ?_⟩, by simp; omega⟩
        have e2 : zs[j]'(by omega) = ys[j]'(by omega) := by simpa using heq2
        rw [List.take_add_one, List.take_add_one, he, List.getElem?_eq_getElem (by omega), List.getElem?_eq_getElem (by omega), e2]
    · have hjn : j = n := by omega
      subst hjn
      rw [List.take_of_length_le (by omega), List.take_of_length_le (by omega)] at he
      simp [he]
end Go.Proofs.YtbgokfhcgcoipaaGreat
namespace Go.Proofs.YtbgokfhcgcoipaaGreat
open Go Go.Proofs.YtbgokfhcgcoipaaGreat.Sx
theorem open_Signed {w : World} {vs : List Value} {ds : List D0} (h : Reps w vs ds) (hc : ds.map D0.code = [.bool, .ints]) :
    ∃ (a0 : Bool) (a1p : Option Addr) (a1n a1c : Nat) (a1z : List Int), vs = [.bool a0, .slice a1p a1n a1c] /\ ds = [.bool a0, .ints a1z] /\ IntsR w a1p a1n a1c a1z := by
  obtain ⟨b0, us, es, hv, hd, h2, hc2⟩ := h.bool hc
  subst hv; subst hd
  clear h hc
  have h := h2; have hc := hc2; clear h2 hc2
  obtain ⟨b1p, b1n, b1c, b1z, us, es, hv, hd, b1h, h2, hc2⟩ := h.ints hc
  subst hv; subst hd
  clear h hc
  have h := h2; have hc := hc2; clear h2 hc2
  obtain ⟨hv, hd⟩ := h.done hc
  subst hv; subst hd; clear h hc
  exact ⟨_, _, _, _, _, rfl, rfl, b1h⟩
theorem laws_szSigned_c {w : World} {vs : List Value} {ds : List D0} (h : Reps w vs ds) (hc : ds.map D0.code = [.bool, .ints]) (hok : ∀ d ∈ ds, d.ok) {left : Int} (h0 : 0 <= left) (h1 : left <= 1048576) :
    Ret P n_laws_szSigned [.agg ⟨vs⟩, .int .i64 left] w fun v w' => ∃ r : Int, v = .int .i64 r /\ (0 <= r -> r + bulks ds <= left) /\ r <= 1048576 /\ Ext w w' := by
  obtain ⟨a0, us, es, hv, hd, h2, hc2⟩ := h.bool hc
  subst hv; subst hd
  clear h hc
  have h := h2; have hc := hc2; clear h2 hc2
  obtain ⟨a1p, a1n, a1c, a1z, us, es, hv, hd, a1h, h2, hc2⟩ := h.ints hc
  subst hv; subst hd
  clear h hc
  have h := h2; have hc := hc2; clear h2 hc2
  obtain ⟨hv, hd⟩ := h.done hc
  subst hv; subst hd; clear h hc
  simp only [List.mem_cons, List.not_mem_nil, or_false, forall_eq_or_imp, forall_eq, D0.ok] at hok
  have a1l := a1h.1; have a1k := a1h.2.1; have a1m := a1h.2.2.1
  simp only [bulks, D0.bulk, List.map_cons, List.map_nil, List.sum_cons, List.sum_nil]
  refine laws_szSigned_ret ?_
  unfold laws_szSigned
  intro r w1 hn1
  have x := hn1.ext; have b0 := hn1.blk
  refine ⟨_, _, _, b0.load (by kernel_rfl) rfl, ?_⟩
  refine Ret.at (laws_szIntS_c (by omega) (by omega) (by omega)) ?_
  rintro v w2 ⟨k0, hv, hk0, hm0, y⟩
  subst hv
  have x := x.trans y; have b0 := b0.ext y
  refine ⟨_, rfl, ifD (fun hl => ⟨_, rfl, by omega, by omega, x⟩) (fun hl => ?_)⟩
  exact ⟨_, rfl, by omega, by omega, x⟩
theorem laws_toSigned_c {w : World} {vs : List Value} {ds : List D0} (h : Reps w vs ds) (hc : ds.map D0.code = [.bool, .ints]) (hb : bulks ds <= 1048576) :
    Ret P n_laws_toSigned [.agg ⟨vs⟩] w fun v w' => ∃ vs' f, v = .agg ⟨vs'⟩ /\ Owns w' w.heap.size vs' ds f /\ f.Nodup /\ Ext w w' := by
  obtain ⟨a0, us, es, hv, hd, h2, hc2⟩ := h.bool hc
  subst hv; subst hd
  clear h hc
  have h := h2; have hc := hc2; clear h2 hc2
  obtain ⟨a1p, a1n, a1c, a1z, us, es, hv, hd, a1h, h2, hc2⟩ := h.ints hc
  subst hv; subst hd
  clear h hc
  have h := h2; have hc := hc2; clear h2 hc2
  obtain ⟨hv, hd⟩ := h.done hc
  subst hv; subst hd; clear h hc
  simp only [bulks, D0.bulk, List.map_cons, List.map_nil, List.sum_cons, List.sum_nil] at hb
  have a1l := a1h.1
  refine laws_toSigned_ret ?_
  unfold laws_toSigned
  intro r w1 hn1 r1 w2 hn2 r2 w3 hn3
  have x := (hn1.ext.trans hn2.ext).trans hn3.ext
  have b0 := (hn1.blk.ext hn2.ext).ext hn3.ext
  have b1 := hn2.blk.ext hn3.ext
  have b2 := hn3.blk
  have e1 := hn1.r_eq; have e2 := hn2.r_eq; have e3 := hn3.r_eq; have s1 := hn1.size; have s2 := hn2.size; have s3 := hn3.size
  obtain ⟨w4, st, b2', ch, sz⟩ := b2.store (P := P) (t := T_bool) (k := 0) (v := .bool a0) (by kernel_rfl) (by simp) rfl
  refine ⟨_, b0.load (by kernel_rfl) rfl, _, st, ?_⟩
  have x := x.chg ch (by simp; omega); have b0 := b0.chg ch (by simp; omega); have b1 := b1.chg ch (by simp; omega)
  have b2 : Blk w4 r2 _ [.bool a0, .slice none 0 0] := b2'
  clear b2'
  refine ⟨_, _, _, b0.load (by kernel_rfl) rfl, ?_⟩
  refine Ret.at (laws_toIntS_c (a1h.ext x) (by omega)) ?_
  rintro v w5 ⟨q0, hv, o0, y⟩
  subst hv
  refine ⟨_, _, _, rfl, ?_⟩
  have o0 := Owns.ints o0
  have l0 : ∀ k ∈ _, k < w5.heap.size := fun k hk => (o0.lt k hk).2
  have nd0 : ([q0] : List Nat).Nodup := by simp
  have y0 := y.le; have b0 := b0.ext y; have b1 := b1.ext y; have b2 := b2.ext y; have x := x.trans y
  obtain ⟨w6, st, b2', ch, sz⟩ := b2.store (P := P) (t := T_s_int) (k := 1) (v := .slice (some ⟨q0, 0, none⟩) a1n a1n) (by kernel_rfl) (by simp) rfl
  refine ⟨_, st, ?_⟩
  have x := x.chg ch (by simp; omega); have b0 := b0.chg ch (by simp; omega); have b1 := b1.chg ch (by simp; omega)
  have b2 : Blk w6 r2 _ [.bool a0, .slice (some ⟨q0, 0, none⟩) a1n a1n] := b2'
  clear b2'
  have o0 := o0.chg1 ch (by omega)
  refine ⟨_, _, _, _, b2.loadA0 (by kernel_rfl), ?_⟩
  have ow : Owns w6 w.heap.size [.bool a0, .slice (some ⟨q0, 0, none⟩) a1n a1n] [.bool a0, .ints a1z] ([] ++ [q0]) := Owns.append (Owns.bool _ _ a0) (o0.mono (by omega))
  obtain ⟨w7, st, b1', ch, sz⟩ := b1.storeA0 (P := P) (t := T_impl_Signed) (xs := [.bool a0, .slice (some ⟨q0, 0, none⟩) a1n a1n]) (by kernel_rfl) rfl ow.reps.cells1
  refine ⟨_, st, _, _, _, _, b1'.loadA0 (by kernel_rfl), [.bool a0, .slice (some ⟨q0, 0, none⟩) a1n a1n], ([] ++ [q0]), rfl, Owns.append (Owns.bool _ _ a0) ((o0.chg1 ch (by omega)).mono (by omega)), ?_, x.chg ch (by simp; omega)⟩
  try simp only [List.nil_append, List.append_nil]
  exact nd0
theorem laws_eqSigned_c {w : World} {xs ys : List Value} {dx dy : List D0} (h : Reps w xs dx) (k : Reps w ys dy) (hc : dx.map D0.code = [.bool, .ints]) (kc : dy.map D0.code = [.bool, .ints]) :
    Ret P n_laws_eqSigned [.agg ⟨xs⟩, .agg ⟨ys⟩] w fun v w' => v = .bool (decide (dx = dy)) /\ Ext w w' := by
  obtain ⟨a0, us, es, hv, hd, h2, hc2⟩ := h.bool hc
  subst hv; subst hd
  clear h hc
  have h := h2; have hc := hc2; clear h2 hc2
  obtain ⟨a1p, a1n, a1c, a1z, us, es, hv, hd, a1h, h2, hc2⟩ := h.ints hc
  subst hv; subst hd
  clear h hc
  have h := h2; have hc := hc2; clear h2 hc2
  obtain ⟨hv, hd⟩ := h.done hc
  subst hv; subst hd; clear h hc
  obtain ⟨bb0, us, es, hv, hd, k2, kc2⟩ := k.bool kc
  subst hv; subst hd
  clear k kc
  have k := k2; have kc := kc2; clear k2 kc2
  obtain ⟨bb1p, bb1n, bb1c, bb1z, us, es, hv, hd, bb1h, k2, kc2⟩ := k.ints kc
  subst hv; subst hd
  clear k kc
  have k := k2; have kc := kc2; clear k2 kc2
  obtain ⟨hv, hd⟩ := k.done kc
  subst hv; subst hd; clear k kc
  refine laws_eqSigned_ret ?_
  unfold laws_eqSigned
  intro r w1 hn1 r1 w2 hn2
  have x := hn1.ext.trans hn2.ext
  have b0 := hn1.blk.ext hn2.ext
  have b1 := hn2.blk
  refine ⟨_, b0.load (by kernel_rfl) rfl, _, b1.load (by kernel_rfl) rfl, ?_⟩
  refine ifN (fun hne => ⟨dec_no (fun e => ?_), x⟩) (fun heq => ?_)
  · have e2 := congrArg (fun l : List D0 => (l.drop 0).take 1) e
    simp at e2; simp [e2] at hne
  have heq : a0 = bb0 := by simpa using heq
  subst heq
  refine ⟨_, _, _, b0.load (by kernel_rfl) rfl, _, _, _, b1.load (by kernel_rfl) rfl, ?_⟩
  refine Ret.at (laws_eqIntS_c (a1h.ext x) (bb1h.ext x)) ?_
  rintro v w3 ⟨hv, y⟩
  subst hv
  have x := x.trans y; have b0 := b0.ext y; have b1 := b1.ext y
  refine ⟨_, rfl, ifN (fun hne => ⟨dec_no (fun e => ?_), x⟩) (fun heq => ?_)⟩
  · have e2 := congrArg (fun l : List D0 => (l.drop 1).take 1) e
    have hne := of_decide_eq_false hne; simp at e2; exact hne e2
  have heq := of_decide_eq_true heq
  subst heq
  exact ⟨dec_yes rfl, x⟩
theorem laws_eqSignedS_c {w : World} {p q : Option Addr} {n c m d : Nat} {l s : List (List D0)} (h : RowsR w 2 p n c l) (k : RowsR w 2 q m d s) (hc : ∀ x ∈ l, x.map D0.code = [.bool, .ints]) (kc : ∀ x ∈ s, x.map D0.code = [.bool, .ints]) :
    Ret P n_laws_eqSignedS [.slice p n c, .slice q m d] w fun v w' => v = .bool (decide (l = s)) /\ Ext w w' := by
  refine laws_eqSignedS_ret ?_
  unfold laws_eqSignedS
  have hz := h.1; have hy := k.1; have hcap := h.2.1; have hcm := h.2.2.1
  refine ifD (fun hne => ⟨dec_no (fun e => hne (by rw [<- hz, <- hy, e])), Ext.refl _⟩) (fun heq => ?_)
  have hnm : n = m := by omega
  refine ⟨fun i wr => ∃ j : Nat, i = j /\ j <= n /\ Ext w wr /\ l.take j = s.take j, fun i _ => n - i.toNat, ⟨0, rfl, by omega, Ext.refl _, by simp⟩, ?_⟩
  intro junk wr i ⟨j, hij, hj, hx, he⟩
  subst hij
  refine ifD (fun hlt => ?_) (fun hge => ⟨?_, hx⟩)
  · have hjn : j < n := by omega
    have hx' := hx.trans (Ext.drew wr)
    have hjl : j < l.length := by omega
    have hjs : j < s.length := by omega
    obtain ⟨kb1, ko1, hp, hs1⟩ := (h.ext hx').2.2.2 (by omega)
    obtain ⟨cs, hk, hr, hg1⟩ := hs1 j _ (List.getElem?_eq_getElem hjl)
    obtain ⟨kb2, ko2, hq, hs2⟩ := (k.ext hx').2.2.2 (by omega)
    obtain ⟨ds, hk2, hr2, hg2⟩ := hs2 j _ (List.getElem?_eq_getElem hjs)
    subst hp; subst hq
    have hrr := hr; have hrr2 := hr2
    have hc1 := hc _ (List.getElem_mem hjl); have hc2 := kc _ (List.getElem_mem hjs)
    obtain ⟨a0, us, esa0, hv, hd, hrx, hc1x⟩ := hr.bool hc1
    subst hv; clear hd
    obtain ⟨a1p, a1n, a1c, a1z, us, esa1, hv, hd, a1h, hrxx, hc1xx⟩ := hrx.ints hc1x
    subst hv; clear hd
    obtain ⟨hv, hd⟩ := hrxx.done hc1xx
    subst hv; clear hd
    obtain ⟨b0, us, esb0, hv, hd, hr2x, hc2x⟩ := hr2.bool hc2
    subst hv; clear hd
    obtain ⟨b1p, b1n, b1c, b1z, us, esb1, hv, hd, b1h, hr2xx, hc2xx⟩ := hr2x.ints hc2x
    subst hv; clear hd
    obtain ⟨hv, hd⟩ := hr2xx.done hc2xx
    subst hv; clear hd
    have l1 : ∀ w', Ext wr.drew w' -> Loads P T_impl_Signed ((⟨kb1, ko1, none⟩ : Addr).add ((j : Int).toNat * 2)) (.agg ⟨[.bool a0, .slice a1p a1n a1c]⟩) w' := fun w' hw => by
      rw [addr_add]; exact loadsA (by kernel_rfl) (by simpa using hg1.ext hw)
    have l2 : ∀ w', Ext wr.drew w' -> Loads P T_impl_Signed ((⟨kb2, ko2, none⟩ : Addr).add ((j : Int).toNat * 2)) (.agg ⟨[.bool b0, .slice b1p b1n b1c]⟩) w' := fun w' hw => by
      rw [addr_add]; exact loadsA (by kernel_rfl) (by simpa using hg2.ext hw)
    refine ⟨⟨by omega, by omega⟩, _, _, _, _, l1, ⟨by omega, by omega⟩, _, _, _, _, l2, ?_⟩
    refine Ret.at (laws_eqSigned_c hrr hrr2 (hc _ (List.getElem_mem hjl)) (kc _ (List.getElem_mem hjs))) ?_
    rintro v w2 ⟨hv, hy2⟩
    subst hv
    refine ⟨_, rfl, ifN (fun hne => ⟨dec_no (fun e => ?_), hx'.trans hy2⟩) (fun heq2 => ?_)⟩
    · exact of_decide_eq_false hne (by subst e; rfl)
    · have e2 := of_decide_eq_true heq2
      refine exW ⟨by omega, by omega⟩ ⟨⟨j + 1, by omega, by omega, hx'.trans hy2, ?_⟩, by simp; omega⟩
      rw [List.take_add_one, List.take_add_one, he, List.getElem?_eq_getElem hjl, List.getElem?_eq_getElem hjs, e2]
  · have hjn : j = n := by omega
    subst hjn
    rw [List.take_of_length_le (by omega), List.take_of_length_le (by omega)] at he
    exact dec_yes he
theorem open_Rat {w : World} {vs : List Value} {ds : List D0} (h : Reps w vs ds) (hc : ds.map D0.code = [.bool, .ints, .ints]) :
    ∃ (a0 : Bool) (a1p : Option Addr) (a1n a1c : Nat) (a1z : List Int) (a2p : Option Addr) (a2n a2c : Nat) (a2z : List Int), vs = [.bool a0, .slice a1p a1n a1c, .slice a2p a2n a2c] /\ ds = [.bool a0, .ints a1z, .ints a2z] /\ IntsR w a1p a1n a1c a1z /\ IntsR w a2p a2n a2c a2z := by
  obtain ⟨b0, us, es, hv, hd, h2, hc2⟩ := h.bool hc
  subst hv; subst hd
  clear h hc
  have h := h2; have hc := hc2; clear h2 hc2
  obtain ⟨b1p, b1n, b1c, b1z, us, es, hv, hd, b1h, h2, hc2⟩ := h.ints hc
  subst hv; subst hd
  clear h hc
  have h := h2; have hc := hc2; clear h2 hc2
  obtain ⟨b2p, b2n, b2c, b2z, us, es, hv, hd, b2h, h2, hc2⟩ := h.ints hc
  subst hv; subst hd
  clear h hc
  have h := h2; have hc := hc2; clear h2 hc2
  obtain ⟨hv, hd⟩ := h.done hc
  subst hv; subst hd; clear h hc
  exact ⟨_, _, _, _, _, _, _, _, _, rfl, rfl, b1h, b2h⟩
end Go.Proofs.YtbgokfhcgcoipaaGreat
namespace Go.Proofs.YtbgokfhcgcoipaaGreat
open Go Go.Proofs.YtbgokfhcgcoipaaGreat.Sx
theorem ints_at {w : World} {p : Option Addr} {n c : Nat} {zs : List Int} (h : IntsR w p n c zs) {i : Int} (h0 : 0 <= i) (h1 : i < n) :
    ∃ a, p = some a /\ Loads P T_int (a.add (i.toNat * 1)) (.int .i64 (zs.getD i.toNat 0)) w := by
  obtain ⟨a, hp, hl⟩ := h.at (P := P) (t := T_int) (k := i.toNat) (by kernel_rfl) (by omega)
  have hz : i.toNat < zs.length := by rw [h.1]; omega
  refine ⟨a, hp, ?_⟩
  rw [List.getD_eq_getElem?_getD, List.getElem?_eq_getElem hz]
  simpa using hl
theorem spec_l01In_c (n lo hi : Int) (w : World) : Ret P n_spec_l01In [.int .i64 n, .int .i64 lo, .int .i64 hi] w fun v w' => v = .bool (decide (lo <= n /\ n <= hi)) /\ w' = w := by
  refine spec_l01In_ret ?_
  unfold spec_l01In
  refine ifD (fun h => ⟨?_, rfl⟩) (fun h => ⟨?_, rfl⟩) <;> simp [h]
def isLimb (z : Int) : Bool := decide (0 <= z /\ z <= 999999999)
def natOk (zs : List Int) : Bool := zs.all isLimb && decide (zs.length <= 50) && !(decide (zs.getLast? = some 0))
theorem getLast_getD {zs : List Int} (h : 0 < zs.length) : zs.getLast? = some (zs.getD (zs.length - 1) 0) := by
  rw [List.getLast?_eq_getElem?, List.getD_eq_getElem?_getD, List.getElem?_eq_getElem (by omega)]
  rfl
theorem all_getD {zs : List Int} (h : ∀ k < zs.length, isLimb (zs.getD k 0) = true) : zs.all isLimb = true := by
  rw [List.all_eq_true]
  intro z hz
  obtain ⟨i, hi, rfl⟩ := List.getElem_of_mem hz
  have := h i hi
  rwa [List.getD_eq_getElem?_getD, List.getElem?_eq_getElem hi] at this
theorem not_all_getD {zs : List Int} {k : Nat} (hk : k < zs.length) (h : isLimb (zs.getD k 0) = false) : zs.all isLimb = false := by
  rw [List.getD_eq_getElem?_getD, List.getElem?_eq_getElem hk] at h
  rw [List.all_eq_false]
  exact ⟨_, List.getElem_mem hk, by simpa using h⟩
theorem spec_NatOk_c {w : World} {p : Option Addr} {n c : Nat} {zs : List Int} (h : IntsR w p n c zs) : Ret P n_spec_NatOk [.slice p n c] w fun v w' => v = .bool (natOk zs) /\ Ext w w' := by
  refine spec_NatOk_ret ?_
  unfold spec_NatOk
  have hlen := h.1; have hcap := h.2.1; have hcm := h.2.2.1
  refine ⟨fun i wr => ∃ k : Nat, i = k /\ k <= n /\ Ext w wr /\ ∀ j < k, isLimb (zs.getD j 0) = true, fun i _ => n - i.toNat, ⟨0, rfl, by omega, Ext.refl _, fun j hj => by omega⟩, ?_⟩
  intro junk wr i ⟨k, hik, hk, hx, hall⟩
  subst hik
  refine ifD (fun hlt => ?_) (fun hge => ?_)
  · obtain ⟨a, rfl, hl⟩ := ints_at (h.ext hx) (i := (k : Int)) (by omega) (by omega)
    refine ⟨⟨by omega, by omega⟩, _, hl, ?_⟩
    refine Ret.at (spec_l01In_c _ 0 999999999 wr) ?_
    rintro v w1 ⟨hv, hw⟩
    subst hv; subst hw
    refine ⟨_, rfl, ifN (fun hb => ⟨?_, hx⟩) (fun hb => ?_)⟩
    · have : zs.all isLimb = false := not_all_getD (k := k) (by omega) (by simpa [isLimb] using hb)
      simp [natOk, this]
    · refine exW ⟨by omega, by omega⟩ ⟨⟨k + 1, by omega, by omega, hx, fun j hj => ?_⟩, by simp; omega⟩
      by_cases hjk : j < k
      · exact hall j hjk
      · obtain rfl : j = k := by omega
        simpa [isLimb] using hb
  · have hkn : k = n := by omega
    subst hkn
    have hal : zs.all isLimb = true := all_getD (fun j hj => hall j (by omega))
    refine ifD (fun hle => ifD (fun h0 => ⟨?_, hx⟩) (fun h0 => ?_)) (fun hgt => ⟨?_, hx⟩)
    · have : zs = [] := List.eq_nil_of_length_eq_zero (by omega)
      subst this; rfl
    · obtain ⟨a, rfl, hl⟩ := ints_at (h.ext hx) (i := (k : Int) - 1) (by omega) (by omega)
      refine exW ⟨by omega, by omega⟩ ⟨⟨by omega, by omega⟩, _, hl, ?_, hx⟩
      have e : ((k : Int) - 1).toNat = zs.length - 1 := by omega
      simp only [natOk, hal, getLast_getD (show 0 < zs.length by omega), e, Option.some.injEq, Bool.true_and]
      rw [show decide (zs.length <= 50) = true by simp; omega]
      simp
    · simp [natOk, hal, show ¬ zs.length <= 50 by omega]
theorem impl_NatOk_c {w : World} {p : Option Addr} {n c : Nat} {zs : List Int} (h : IntsR w p n c zs) : Ret P n_impl_NatOk [.slice p n c] w fun v w' => v = .bool (natOk zs) /\ Ext w w' := by
  have hlen := h.1; have hcap := h.2.1; have hcm := h.2.2.1
  have J : ∀ wr, Ext w wr -> zs.length <= 50 -> zs.getLast? ≠ some 0 -> impl_NatOk_j0 p n wr fun v w' => v = .bool (natOk zs) /\ Ext w w' := by
    intro wr hx0 h50 hl0
    unfold impl_NatOk_j0
    refine ⟨fun i wr => ∃ k : Nat, i = k /\ k <= n /\ Ext w wr /\ ∀ j < k, isLimb (zs.getD j 0) = true, fun i _ => n - i.toNat, ⟨0, rfl, by omega, hx0, fun j hj => by omega⟩, ?_⟩
    intro junk wr i ⟨k, hik, hk, hx, hall⟩
    subst hik
    refine ifD (fun hlt => ?_) (fun hge => ⟨?_, hx⟩)
    · obtain ⟨a, rfl, hl⟩ := ints_at (h.ext hx) (i := (k : Int)) (by omega) (by omega)
      have no : isLimb (zs.getD k 0) = false -> Value.bool false = .bool (natOk zs) := fun hf => by
        have : zs.all isLimb = false := not_all_getD (k := k) (by omega) hf
        simp [natOk, this]
      refine ⟨⟨by omega, by omega⟩, _, hl, ifD (fun hb => ifT ⟨no (by simp [isLimb]; simp at hb; omega), hx⟩) (fun hb => ifD (fun hb2 => ⟨no (by simp [isLimb]; simp at hb2; omega), hx⟩) (fun hb2 => ?_))⟩
      refine exW ⟨by omega, by omega⟩ ⟨⟨k + 1, by omega, by omega, hx, fun j hj => ?_⟩, by simp; omega⟩
      by_cases hjk : j < k
      · exact hall j hjk
      · obtain rfl : j = k := by omega
        simp [isLimb]; simp at hb hb2; omega
    · have hal : zs.all isLimb = true := all_getD (fun j hj => hall j (by omega))
      simp [natOk, hal, h50, hl0]
  refine impl_NatOk_ret ?_
  unfold impl_NatOk
  refine ifD (fun hgt => ifT ⟨by simp [natOk, show ¬ zs.length <= 50 by omega], Ext.refl _⟩) (fun hle => ifD (fun hpos => ?_) (fun h0 => ifF ?_))
  · obtain ⟨a, rfl, hl⟩ := ints_at h (i := (n : Int) - 1) (by omega) (by omega)
    have e : ((n : Int) - 1).toNat = zs.length - 1 := by omega
    have hg := getLast_getD (show 0 < zs.length by omega)
    rw [<- e] at hg
    refine exW ⟨by omega, by omega⟩ ⟨⟨by omega, by omega⟩, _, hl, ifD (fun hz => ⟨?_, Ext.refl _⟩) (fun hz => J w (Ext.refl _) (by omega) (by rw [hg]; simpa using hz))⟩
    simp only [natOk, hg, hz]; simp
  · have : zs = [] := List.eq_nil_of_length_eq_zero (by omega)
    exact J w (Ext.refl _) (by omega) (by rw [this]; simp)
def lexR : List Int -> List Int -> Int
  | x :: xs, y :: ys => if x < y then -1 else if y < x then 1 else lexR xs ys
  | _, _ => 0
def cmpL (a b : List Int) : Int := if a.length < b.length then -1 else if b.length < a.length then 1 else lexR a.reverse b.reverse
theorem lexR_same : ∀ (a : List Int), lexR a a = 0
  | [] => rfl
  | x :: xs => by simp [lexR, lexR_same xs]
theorem lexR_at : ∀ (t : List Int) {x y : Int} {s r : List Int}, x ≠ y -> lexR (t ++ x :: s) (t ++ y :: r) = if x < y then -1 else 1
  | [], x, y, s, r, h => by
    simp only [List.nil_append, lexR]
    by_cases h1 : x < y
    · simp [h1]
    · simp [h1, show y < x by omega]
  | z :: t, x, y, s, r, h => by simp [lexR, lexR_at t h]
theorem lexR_zero : ∀ (a b : List Int), a.length = b.length -> lexR a b = 0 -> a = b
  | [], [], _, _ => rfl
  | x :: xs, y :: ys, hl, h => by
    simp only [lexR] at h
    by_cases h1 : x < y
    · simp [h1] at h
    · by_cases h2 : y < x
      · simp [h1, h2] at h
      · simp only [h1, h2, if_false] at h
        rw [lexR_zero xs ys (by simpa using hl) h, show x = y by omega]
theorem cmpL_zero {a b : List Int} : cmpL a b = 0 ↔ a = b := by
  constructor
  · intro h
    unfold cmpL at h
    split at h
    · cases h
    · split at h
      · cases h
      · have := lexR_zero _ _ (by simp; omega) h
        simpa using this
  · rintro rfl; simp [cmpL, lexR_same]
theorem cmpL_at {a b : List Int} {i : Nat} (hl : a.length = b.length) (hi : i < a.length) (ht : ∀ j, i < j -> a.getD j 0 = b.getD j 0) (hne : a.getD i 0 ≠ b.getD i 0) : cmpL a b = if a.getD i 0 < b.getD i 0 then -1 else 1 := by
  have hi2 : i < b.length := by omega
  have e1 : a = a.take i ++ a.getD i 0 :: a.drop (i + 1) := by
    rw [List.getD_eq_getElem?_getD, List.getElem?_eq_getElem hi, Option.getD_some, <- List.drop_eq_getElem_cons, List.take_append_drop]
  have e2 : b = b.take i ++ b.getD i 0 :: b.drop (i + 1) := by
    rw [List.getD_eq_getElem?_getD, List.getElem?_eq_getElem hi2, Option.getD_some, <- List.drop_eq_getElem_cons, List.take_append_drop]
  have ed : a.drop (i + 1) = b.drop (i + 1) := by
    apply List.ext_getElem (by simp; omega)
    intro k h1 h2
    have := ht (i + 1 + k) (by omega)
    simp only [List.length_drop] at h1 h2
    rw [List.getD_eq_getElem?_getD, List.getD_eq_getElem?_getD, List.getElem?_eq_getElem (by omega), List.getElem?_eq_getElem (by omega)] at this
    simpa using this
  have r1 : a.reverse = (a.drop (i + 1)).reverse ++ a.getD i 0 :: (a.take i).reverse := (congrArg List.reverse e1).trans (by simp)
  have r2 : b.reverse = (a.drop (i + 1)).reverse ++ b.getD i 0 :: (b.take i).reverse := (congrArg List.reverse e2).trans (by simp [ed])
  unfold cmpL
  rw [if_neg (by omega), if_neg (by omega), r1, r2, lexR_at _ hne]
theorem cmpL_all {a b : List Int} (hl : a.length = b.length) (ht : ∀ j, a.getD j 0 = b.getD j 0) : cmpL a b = 0 := by
  have : a = b := by
    apply List.ext_getElem hl
    intro k h1 h2
    have := ht k
    rw [List.getD_eq_getElem?_getD, List.getD_eq_getElem?_getD, List.getElem?_eq_getElem h1, List.getElem?_eq_getElem h2] at this
    simpa using this
  exact cmpL_zero.2 this
theorem getD_beyond {a : List Int} {j : Nat} (h : a.length <= j) : a.getD j 0 = 0 := by
  rw [List.getD_eq_getElem?_getD, List.getElem?_eq_none h]; rfl
theorem spec_l02Cmp_c {w : World} {p q : Option Addr} {n c m d : Nat} {zs ys : List Int} (h : IntsR w p n c zs) (k : IntsR w q m d ys) :
    Ret P n_spec_l02Cmp [.slice p n c, .slice q m d] w fun v w' => v = .int .i64 (cmpL zs ys) /\ Ext w w' := by
  refine spec_l02Cmp_ret ?_
  unfold spec_l02Cmp
  have hz := h.1; have hy := k.1; have hcap := h.2.1; have hcm := h.2.2.1
  refine ifD (fun hne => ifD (fun hlt => ⟨?_, Ext.refl _⟩) (fun hge => ⟨?_, Ext.refl _⟩)) (fun heq => ?_)
  · rw [cmpL, if_pos (by omega)]
  · rw [cmpL, if_neg (by omega), if_pos (by omega)]
  · have hnm : n = m := by omega
    refine exW ⟨by omega, by omega⟩ ⟨fun i wr => -1 <= i /\ i < n /\ Ext w wr /\ ∀ j : Nat, i < j -> zs.getD j 0 = ys.getD j 0, fun i _ => (i + 1).toNat, ⟨by omega, by omega, Ext.refl _, fun j hj => by rw [getD_beyond (by omega), getD_beyond (by omega)]⟩, ?_⟩
    intro junk wr i ⟨h1, h2, hx, ht⟩
    refine ifD (fun h0 => ?_) (fun hneg => ⟨?_, hx⟩)
    · have hx1 := hx.trans (Ext.drew wr)
      have hx2 := hx1.trans (Ext.drew _)
      obtain ⟨a, hpa, _⟩ := ints_at h h0 h2
      obtain ⟨b, hqb, _⟩ := ints_at k h0 (show i < m by omega)
      subst hpa; subst hqb
      have l1 : ∀ w', Ext w w' -> Loads P T_int (a.add (i.toNat * 1)) (.int .i64 (zs.getD i.toNat 0)) w' := fun w' hw => by
        obtain ⟨a', ha, hl⟩ := ints_at (h.ext hw) h0 h2
        cases ha; exact hl
      have l2 : ∀ w', Ext w w' -> Loads P T_int (b.add (i.toNat * 1)) (.int .i64 (ys.getD i.toNat 0)) w' := fun w' hw => by
        obtain ⟨a', ha, hl⟩ := ints_at (k.ext hw) h0 (show i < m by omega)
        cases ha; exact hl
      have ht' : ∀ j : Nat, i.toNat < j -> zs.getD j 0 = ys.getD j 0 := fun j hj => ht j (by omega)
      refine ⟨⟨by omega, by omega⟩, _, fun w' hw => l1 w' (hx1.trans hw), ⟨by omega, by omega⟩, _, fun w' hw => l2 w' (hx1.trans hw), ifD (fun hlt => ⟨?_, hx1⟩) (fun hge => ?_)⟩
      · rw [cmpL_at (by omega) (by omega) ht' (by omega), if_pos hlt]
      · refine ⟨⟨by omega, by omega⟩, _, fun w' hw => l1 w' (hx2.trans hw), ⟨by omega, by omega⟩, _, fun w' hw => l2 w' (hx2.trans hw), ifD (fun hlt => ⟨?_, hx2⟩) (fun hge2 => ?_)⟩
        · rw [cmpL_at (by omega) (by omega) ht' (by omega), if_neg (by omega)]
        · refine exW ⟨by omega, by omega⟩ ⟨⟨by omega, by omega, hx2, fun j hj => ?_⟩, by show (i - 1 + 1).toNat < (i + 1).toNat; omega⟩
          by_cases e : j = i.toNat
          · subst e; omega
          · exact ht j (by omega)
    · rw [cmpL_all (by omega) (fun j => ht j (by omega))]
theorem impl_natCmp_c {w : World} {p q : Option Addr} {n c m d : Nat} {zs ys : List Int} (h : IntsR w p n c zs) (k : IntsR w q m d ys) :
    Ret P n_impl_natCmp [.slice p n c, .slice q m d] w fun v w' => v = .int .i64 (cmpL zs ys) /\ Ext w w' := by
  refine impl_natCmp_ret ?_
  unfold impl_natCmp
  have hz := h.1; have hy := k.1; have hcap := h.2.1; have hcm := h.2.2.1
  refine ifD (fun hne => ifD (fun hlt => ⟨?_, Ext.refl _⟩) (fun hge => ⟨?_, Ext.refl _⟩)) (fun heq => ?_)
  · rw [cmpL, if_pos (by omega)]
  · rw [cmpL, if_neg (by omega), if_pos (by omega)]
  · have hnm : n = m := by omega
    refine exW ⟨by omega, by omega⟩ ⟨fun i wr => -1 <= i /\ i < n /\ Ext w wr /\ ∀ j : Nat, i < j -> zs.getD j 0 = ys.getD j 0, fun i _ => (i + 1).toNat, ⟨by omega, by omega, Ext.refl _, fun j hj => by rw [getD_beyond (by omega), getD_beyond (by omega)]⟩, ?_⟩
    intro junk wr i ⟨h1, h2, hx, ht⟩
    refine ifD (fun h0 => ?_) (fun hneg => ⟨?_, hx⟩)
    · have hx1 := hx.trans (Ext.drew wr)
      have hx2 := hx1.trans (Ext.drew _)
      obtain ⟨a, hpa, _⟩ := ints_at h h0 h2
      obtain ⟨b, hqb, _⟩ := ints_at k h0 (show i < m by omega)
      subst hpa; subst hqb
      have l1 : ∀ w', Ext w w' -> Loads P T_int (a.add (i.toNat * 1)) (.int .i64 (zs.getD i.toNat 0)) w' := fun w' hw => by
        obtain ⟨a', ha, hl⟩ := ints_at (h.ext hw) h0 h2
        cases ha; exact hl
      have l2 : ∀ w', Ext w w' -> Loads P T_int (b.add (i.toNat * 1)) (.int .i64 (ys.getD i.toNat 0)) w' := fun w' hw => by
        obtain ⟨a', ha, hl⟩ := ints_at (k.ext hw) h0 (show i < m by omega)
        cases ha; exact hl
      have ht' : ∀ j : Nat, i.toNat < j -> zs.getD j 0 = ys.getD j 0 := fun j hj => ht j (by omega)
      refine ⟨⟨by omega, by omega⟩, _, fun w' hw => l1 w' (hx1.trans hw), ⟨by omega, by omega⟩, _, fun w' hw => l2 w' (hx1.trans hw), ifD (fun hne => ?_) (fun heq2 => ?_)⟩
      · refine ⟨⟨by omega, by omega⟩, _, fun w' hw => l1 w' (hx2.trans hw), ⟨by omega, by omega⟩, _, fun w' hw => l2 w' (hx2.trans hw), ifD (fun hlt => ⟨?_, hx2⟩) (fun hge => ⟨?_, hx2⟩)⟩
        · rw [cmpL_at (by omega) (by omega) ht' hne, if_pos hlt]
        · rw [cmpL_at (by omega) (by omega) ht' hne, if_neg hge]
      · have heq2 : zs.getD i.toNat 0 = ys.getD i.toNat 0 := by simpa using heq2
        refine exW ⟨by omega, by omega⟩ ⟨⟨by omega, by omega, hx1, fun j hj => ?_⟩, by show (i - 1 + 1).toNat < (i + 1).toNat; omega⟩
        by_cases e : j = i.toNat
        · subst e; omega
        · exact ht j (by omega)
    · rw [cmpL_all (by omega) (fun j => ht j (by omega))]
end Go.Proofs.YtbgokfhcgcoipaaGreat
namespace Go.Proofs.YtbgokfhcgcoipaaGreat
open Go Go.Proofs.YtbgokfhcgcoipaaGreat.Sx
abbrev El := Int × Option Addr × Nat × Nat
def cE (x : El) : List Value := [.int .i64 x.1, .slice x.2.1 x.2.2.1 x.2.2.2]
def atE (l : List El) (k : Nat) : El := l.getD k (0, none, 0, 0)
def flE (l : List El) : List Value := (l.map cE).flatten
theorem flE_len (l : List El) : (flE l).length = l.length * 2 := by
  induction l with
  | nil => rfl
  | cons x r ih =>
    show (cE x ++ flE r).length = _
    rw [List.length_append, ih, List.length_cons]
    show 2 + _ = _
    omega
theorem flE_at (zs : List Value) : ∀ (l : List El) (i : Nat), i < l.length -> ((flE l ++ zs).drop (i * 2)).take 2 = cE (atE l i)
  | [], i, h => by simp at h
  | x :: r, 0, h => by
    show ((cE x ++ flE r ++ zs).drop 0).take 2 = cE x
    rfl
  | x :: r, i + 1, h => by
    have := flE_at zs r i (by simpa using h)
    show ((cE x ++ flE r ++ zs).drop ((i + 1) * 2)).take 2 = cE (atE r i)
    rw [<- this, List.append_assoc, show (i + 1) * 2 = (cE x).length + i * 2 by show _ = 2 + _; omega, <- List.drop_drop, List.drop_left]
theorem flE_set (zs : List Value) (y : El) : ∀ (l : List El) (i : Nat), i < l.length -> (flE l ++ zs).take (i * 2) ++ cE y ++ (flE l ++ zs).drop (i * 2 + 2) = flE (l.set i y) ++ zs
  | [], i, h => by simp at h
  | x :: r, 0, h => rfl
  | x :: r, i + 1, h => by
    have := flE_set zs y r i (by simpa using h)
    show (cE x ++ flE r ++ zs).take ((i + 1) * 2) ++ cE y ++ (cE x ++ flE r ++ zs).drop ((i + 1) * 2 + 2) = cE x ++ flE (r.set i y) ++ zs
    rw [List.append_assoc (cE x) (flE (r.set i y)), <- this]
    have e1 : (i + 1) * 2 = (cE x).length + i * 2 := by show _ = 2 + _; omega
    have e2 : (i + 1) * 2 + 2 = (cE x).length + (i * 2 + 2) := by show _ = 2 + _; omega
    rw [e2, e1, List.append_assoc (cE x), List.take_length_add_append, List.drop_length_add_append]
    simp only [List.append_assoc]
def RB (w : World) (b : Nat) (zs : List Value) (l : List El) : Prop := Blk w b T_impl_part (flE l ++ zs)
theorem el_agg : aggT P T_impl_part 2 = true := by kernel_rfl
theorem RB.load {w w' : World} {b : Nat} {zs : List Value} {l : List El} (h : RB w b zs l) (he : Ext w w') {i : Nat} (hi : i < l.length) : Loads P T_impl_part ((⟨b, 0, none⟩ : Addr).add (i * 2)) (.agg ⟨cE (atE l i)⟩) w' :=
  (Blk.ext h he).loadA (xs := cE (atE l i)) el_agg (flE_at zs l i hi)
theorem RB.store {w : World} {b : Nat} {zs : List Value} {l : List El} (h : RB w b zs l) {i : Nat} (hi : i < l.length) (y : El) : ∃ w', Stores P T_impl_part ((⟨b, 0, none⟩ : Addr).add (i * 2)) (.agg ⟨cE y⟩) w w' /\ RB w' b zs (l.set i y) /\ Chg [b] w w' := by
  obtain ⟨w', h1, h2, h3, _⟩ := Blk.storeA (xs := cE y) h el_agg (k := i * 2) (by rw [List.length_append, flE_len]; show i * 2 + 2 <= _; omega) (fun v hv => by
    simp only [cE, List.mem_cons, List.not_mem_nil, or_false] at hv
    rcases hv with rfl | rfl <;> rfl)
  refine ⟨w', h1, ?_, h3⟩
  have e := flE_set zs y l i hi
  unfold RB
  rw [<- e]
  exact h2
structure SS (w0 : World) (b : Nat) (zs : List Value) (l0 : List El) (w : World) (l : List El) : Prop where
  rb : RB w b zs l
  pm : l.Perm l0
  ch : Chg [b] w0 w
theorem SS.len {w0 w : World} {b : Nat} {zs : List Value} {l0 l : List El} (h : SS w0 b zs l0 w l) : l.length = l0.length := h.pm.length_eq
theorem SS.ext {w0 w w' : World} {b : Nat} {zs : List Value} {l0 l : List El} (h : SS w0 b zs l0 w l) (he : Ext w w') : SS w0 b zs l0 w' l := ⟨Blk.ext h.rb he, h.pm, h.ch.trans he.toChg⟩
theorem SS.mem {w0 w : World} {b : Nat} {zs : List Value} {l0 l : List El} (h : SS w0 b zs l0 w l) {i : Nat} (hi : i < l0.length) : atE l i ∈ l0 := by
  have hi2 : i < l.length := by rw [h.len]; exact hi
  refine h.pm.mem_iff.1 ?_
  unfold atE
  rw [List.getD_eq_getElem?_getD, List.getElem?_eq_getElem hi2]
  exact List.getElem_mem hi2
theorem SS.swap {w0 w : World} {b : Nat} {zs : List Value} {l0 l : List El} (h : SS w0 b zs l0 w l) {i j : Nat} (hi : i < l0.length) (hj : j < l0.length) (hne : i ≠ j) :
    ∃ w1 w2 l', Stores P T_impl_part ((⟨b, 0, none⟩ : Addr).add (i * 2)) (.agg ⟨cE (atE l j)⟩) w w1 /\ Stores P T_impl_part ((⟨b, 0, none⟩ : Addr).add (j * 2)) (.agg ⟨cE (atE l i)⟩) w1 w2 /\ SS w0 b zs l0 w2 l' /\ atE l' = sw2 (atE l) i j := by
  obtain ⟨w1, s1, r1, c1⟩ := h.rb.store (i := i) (by rw [h.len]; exact hi) (atE l j)
  obtain ⟨w2, s2, r2, c2⟩ := RB.store r1 (i := j) (by rw [List.length_set, h.len]; exact hj) (atE l i)
  refine ⟨w1, w2, swL (0, none, 0, 0) l i j, s1, s2, ⟨r2, (swL_perm _ l (by rw [h.len]; exact hi) (by rw [h.len]; exact hj)).trans h.pm, h.ch.trans (c1.trans c2)⟩, ?_⟩
  funext k
  exact swL_get _ l (by rw [h.len]; exact hi) (by rw [h.len]; exact hj) k hne
theorem ldE {w : World} {b : Nat} {zs : List Value} {l : List El} {i n : Nat} {z : Int} {Q : Addr -> Int -> Option Addr -> Nat -> Nat -> Prop} (h : RB w b zs l) (hz : z = i) (hi : i < n) (hn : l.length = n)
    (hq : Q ⟨b, 0, none⟩ (atE l i).1 (atE l i).2.1 (atE l i).2.2.1 (atE l i).2.2.2) :
    (0 <= z /\ z < (n : Nat)) /\ ptrS (some ⟨b, 0, none⟩) fun ad => ∃ (a0 : Int) (p : Option Addr) (m c : Nat), (∀ W, Ext w.drew W -> Loads P T_impl_part (ad.add (z.toNat * 2)) (.agg #[(.int .i64 a0), (.slice p m c)]) W) /\ Q ad a0 p m c := by
  subst hz; subst hn
  refine ⟨⟨by omega, by omega⟩, _, _, _, _, fun W hW => ?_, hq⟩
  exact h.load ((Ext.drew _).trans hW) hi
theorem swE {w0 w : World} {b n : Nat} {zs : List Value} {l0 l : List El} {i j : Nat} {z1 z2 : Int} {Q : World -> Prop} (h : SS w0 b zs l0 w l) (hn : l0.length = n) (h1 : z1 = i) (h2 : z2 = j) (hi : i < n) (hj : j < n) (hne : i ≠ j)
    (hq : ∀ w2 l', SS w0 b zs l0 w2 l' -> atE l' = sw2 (atE l) i j -> Q w2) :
    (0 <= z1 /\ z1 < (n : Nat)) /\ ptrS (some ⟨b, 0, none⟩) fun ad => ∃ w1, Stores P T_impl_part (ad.add (z1.toNat * 2)) (.agg #[(.int .i64 (atE l j).1), (.slice (atE l j).2.1 (atE l j).2.2.1 (atE l j).2.2.2)]) w.drew w1 /\
      (0 <= z2 /\ z2 < (n : Nat)) /\ ptrS (some ⟨b, 0, none⟩) fun ad => ∃ w2, Stores P T_impl_part (ad.add (z2.toNat * 2)) (.agg #[(.int .i64 (atE l i).1), (.slice (atE l i).2.1 (atE l i).2.2.1 (atE l i).2.2.2)]) w1 w2 /\ Q w2 := by
  subst h1; subst h2; subst hn
  obtain ⟨w1, w2, l2, s1, s2, hs2, hl2⟩ := (h.ext (Ext.drew _)).swap hi hj hne
  exact ⟨⟨by omega, by omega⟩, w1, s1, ⟨by omega, by omega⟩, w2, s2, hq w2 l2 hs2 hl2⟩
def Win (a b : Nat) (f g : Nat -> El) : Prop := (∀ q, q < a ∨ b <= q -> g q = f q) /\ ∀ i, a <= i -> i < b -> ∃ k, a <= k /\ k < b /\ g i = f k
theorem Win.refl (a b : Nat) (f : Nat -> El) : Win a b f f := ⟨fun _ _ => rfl, fun i h1 h2 => ⟨i, h1, h2, rfl⟩⟩
theorem Win.trans {a b : Nat} {f g h : Nat -> El} (x : Win a b f g) (y : Win a b g h) : Win a b f h :=
  ⟨fun q hq => (y.1 q hq).trans (x.1 q hq), fun i h1 h2 => by
    obtain ⟨k, k1, k2, e⟩ := y.2 i h1 h2
    obtain ⟨m, m1, m2, e2⟩ := x.2 k k1 k2
    exact ⟨m, m1, m2, e.trans e2⟩⟩
theorem Win.wide {a b a' b' : Nat} {f g : Nat -> El} (x : Win a b f g) (ha : a' <= a) (hb : b <= b') : Win a' b' f g :=
  ⟨fun q hq => x.1 q (by omega), fun i h1 h2 => by
    by_cases h : a <= i /\ i < b
    · obtain ⟨k, k1, k2, e⟩ := x.2 i h.1 h.2
      exact ⟨k, by omega, by omega, e⟩
    · exact ⟨i, h1, h2, x.1 i (by omega)⟩⟩
theorem Win.sw {a b i j : Nat} (f : Nat -> El) (h1 : a <= i) (h2 : i < b) (h3 : a <= j) (h4 : j < b) : Win a b f (sw2 f i j) :=
  ⟨fun q hq => by unfold sw2; rw [if_neg (by omega), if_neg (by omega)], fun k k1 k2 => by
    unfold sw2
    by_cases e1 : k = i
    · exact ⟨j, h3, h4, if_pos e1⟩
    · rw [if_neg e1]
      by_cases e2 : k = j
      · exact ⟨i, h1, h2, if_pos e2⟩
      · exact ⟨k, k1, k2, if_neg e2⟩⟩
theorem Win.rot {a m b : Nat} (f : Nat -> El) (h1 : a <= m) (h2 : m <= b) : Win a b f (rotF f a m b) :=
  ⟨fun q hq => by unfold rotF; rw [if_neg (by omega), if_neg (by omega)], fun k k1 k2 => by
    unfold rotF
    by_cases e1 : a <= k /\ k < a + (b - m)
    · exact ⟨k + (m - a), by omega, by omega, if_pos e1⟩
    · rw [if_neg e1, if_pos (by omega)]
      exact ⟨k - (b - m), by omega, by omega, rfl⟩⟩
theorem Win.up {a b i : Nat} (f : Nat -> El) (h1 : a <= i) (h2 : i < b) : Win a b f (upF f a i) :=
  ⟨fun q hq => by unfold upF; rw [if_neg (by omega), if_neg (by omega)], fun k k1 k2 => by
    unfold upF
    by_cases e1 : a <= k /\ k < i
    · exact ⟨k + 1, by omega, by omega, if_pos e1⟩
    · rw [if_neg e1]
      by_cases e2 : k = i
      · exact ⟨a, by omega, by omega, if_pos e2⟩
      · exact ⟨k, k1, k2, if_neg e2⟩⟩
theorem Win.down {a b i m : Nat} (f : Nat -> El) (h0 : a <= i) (h1 : i <= m) (h2 : m < b) : Win a b f (downF f i m) :=
  ⟨fun q hq => by unfold downF; rw [if_neg (by omega), if_neg (by omega)], fun k k1 k2 => by
    unfold downF
    by_cases e1 : i < k /\ k <= m
    · exact ⟨k - 1, by omega, by omega, if_pos e1⟩
    · rw [if_neg e1]
      by_cases e2 : k = i
      · exact ⟨m, by omega, by omega, if_pos e2⟩
      · exact ⟨k, k1, k2, if_neg e2⟩⟩
theorem swapRange_c {w0 w : World} {b cp : Nat} {zs : List Value} {l0 l : List El} (cmp : Value) (h : SS w0 b zs l0 w l) (hn : l0.length <= 1000000) {a c k : Nat} (ha : a + k <= c) (hc : c + k <= l0.length) :
    Ret P n_slices_swapRangeCmpFunc_impl_part [.slice (some ⟨b, 0, none⟩) l0.length cp, .int .i64 a, .int .i64 c, .int .i64 k, cmp] w fun v w' => v = .tuple #[] /\ ∃ l', SS w0 b zs l0 w' l' /\ atE l' = swR (atE l) a c k := by
  refine slices_swapRangeCmpFunc_impl_part_ret ?_
  unfold slices_swapRangeCmpFunc_impl_part
  refine ⟨fun i W => ∃ j : Nat, i = j /\ j <= k /\ ∃ l', SS w0 b zs l0 W l' /\ atE l' = swR (atE l) a c j, fun i _ => k - i.toNat, ⟨0, rfl, Nat.zero_le _, l, h, by funext q; exact (swR_zero _ a c q).symm⟩, ?_⟩
  intro junk wv i ⟨j, hi, hj, l1, hs, hl⟩
  subst hi
  refine ifD (fun hlt => ?_) (fun hge => ?_)
  · have hA : a + j < l0.length := by omega
    have hC : c + j < l0.length := by omega
    refine exW ⟨by omega, by omega⟩ (exW ⟨by omega, by omega⟩ (exW ⟨by omega, by omega⟩ (ldE hs.rb (i := c + j) (by omega) hC hs.len ?_)))
    refine exW ⟨by omega, by omega⟩ (ldE hs.rb (i := a + j) (by omega) hA hs.len ?_)
    refine swE hs rfl (i := a + j) (j := c + j) (by omega) (by omega) hA hC (by omega) fun w2 l2 hs2 hl2 => ?_
    refine exW ⟨by omega, by omega⟩ ⟨⟨j + 1, by omega, by omega, l2, hs2, ?_⟩, ?_⟩
    · rw [hl2, hl]
      funext q
      exact swR_succ _ (by omega) q
    · show k - ((j : Int) + 1).toNat < k - (j : Int).toNat
      omega
  · have : j = k := by omega
    subst this
    exact ⟨rfl, l1, hs, hl⟩
theorem rotate_c {w0 w : World} {b cp : Nat} {zs : List Value} {l0 l : List El} (cmp : Value) (h : SS w0 b zs l0 w l) (hn : l0.length <= 1000000) {a m e : Nat} (ha : a < m) (hm : m < e) (he : e <= l0.length) :
    Ret P n_slices_rotateCmpFunc_impl_part [.slice (some ⟨b, 0, none⟩) l0.length cp, .int .i64 a, .int .i64 m, .int .i64 e, cmp] w fun v w' => v = .tuple #[] /\ ∃ l', SS w0 b zs l0 w' l' /\ atE l' = rotF (atE l) a m e := by
  refine slices_rotateCmpFunc_impl_part_ret ?_
  unfold slices_rotateCmpFunc_impl_part
  refine exW ⟨by omega, by omega⟩ (exW ⟨by omega, by omega⟩ ⟨fun i j W => ∃ x y : Nat, i = x /\ j = y /\ 0 < x /\ 0 < y /\ a + x <= m /\ m + y <= e /\ ∃ l', SS w0 b zs l0 W l' /\ rotF (atE l') (m - x) m (m + y) = rotF (atE l) a m e, fun i j _ => i.toNat + j.toNat, ⟨m - a, e - m, by omega, by omega, by omega, by omega, by omega, by omega, l, h, ?_⟩, ?_⟩)
  · rw [show m - (m - a) = a by omega, show m + (e - m) = e by omega]
  intro junk wv i j ⟨x, y, hi, hj, hx, hy, hxa, hye, l1, hs, hl⟩
  subst hi; subst hj
  refine ifD (fun hne => ?_) (fun heq => ?_)
  · refine ifD (fun hlt => ?_) (fun hge => ?_)
    · refine exW ⟨by omega, by omega⟩ ?_
      rw [show (m : Int) - (x : Int) = ((m - x : Nat) : Int) by omega]
      refine Ret.at (swapRange_c cmp hs hn (a := m - x) (c := m) (k := y) (by omega) (by omega)) ?_
      rintro v w1 ⟨rfl, l2, hs2, hl2⟩
      refine ⟨rfl, exW ⟨by omega, by omega⟩ ⟨⟨x - y, y, by omega, rfl, by omega, hy, by omega, hye, l2, hs2, ?_⟩, ?_⟩⟩
      · rw [<- hl, hl2]
        funext q
        exact rot_gt _ (by omega) (by omega) q
      · show ((x : Int) - y).toNat + (y : Int).toNat < (x : Int).toNat + (y : Int).toNat
        omega
    · refine exW ⟨by omega, by omega⟩ (exW ⟨by omega, by omega⟩ (exW ⟨by omega, by omega⟩ ?_))
      rw [show (m : Int) - (x : Int) = ((m - x : Nat) : Int) by omega, show (m : Int) + (y : Int) - (x : Int) = ((m + y - x : Nat) : Int) by omega]
      refine Ret.at (swapRange_c cmp hs hn (a := m - x) (c := m + y - x) (k := x) (by omega) (by omega)) ?_
      rintro v w1 ⟨rfl, l2, hs2, hl2⟩
      refine ⟨rfl, exW ⟨by omega, by omega⟩ ⟨⟨x, y - x, rfl, by omega, hx, by omega, hxa, by omega, l2, hs2, ?_⟩, ?_⟩⟩
      · rw [<- hl, hl2]
        funext q
        exact rot_lt _ (by omega) (by omega) q
      · show (x : Int).toNat + ((y : Int) - x).toNat < (x : Int).toNat + (y : Int).toNat
        omega
  · have hxy : y = x := by omega
    subst hxy
    refine exW ⟨by omega, by omega⟩ ?_
    rw [show (m : Int) - (y : Int) = ((m - y : Nat) : Int) by omega]
    refine Ret.at (swapRange_c cmp hs hn (a := m - y) (c := m) (k := y) (by omega) (by omega)) ?_
    rintro v w1 ⟨rfl, l2, hs2, hl2⟩
    refine ⟨rfl, rfl, l2, hs2, ?_⟩
    rw [<- hl, hl2]
    funext q
    exact rot_eq _ (by omega) q
end Go.Proofs.YtbgokfhcgcoipaaGreat
namespace Go.Proofs.YtbgokfhcgcoipaaGreat
open Go Go.Proofs.YtbgokfhcgcoipaaGreat.Sx
theorem callW_mono {f : Value} {args : List Value} {w : World} {Q Q' : Ending -> World -> Prop} (h : CallW P f args w Q) (hq : ∀ e w', Q e w' -> Q' e w') : CallW P f args w Q' := by
  obtain ⟨g, fi, ca, rfl, hg, hc⟩ := h
  exact ⟨g, fi, ca, rfl, hg, Calls.mono hc hq⟩
abbrev LE (lt : El -> El -> Prop) (x y : El) : Prop := ¬ lt y x
structure Cm (w0 : World) (b : Nat) (l0 : List El) (cmp : Value) (lt : El -> El -> Prop) : Prop where
  call : ∀ W x y, Chg [b] w0 W -> x ∈ l0 -> y ∈ l0 -> CallW P cmp [.agg ⟨cE x⟩, .agg ⟨cE y⟩] W fun e W' => ∃ z : Int, e = .returned (.int .i64 z) /\ (z < 0 ↔ lt x y) /\ Ext W W'
  asy : ∀ x y, lt x y -> ¬ lt y x
  tr : ∀ x y z, ¬ lt y x -> ¬ lt z y -> ¬ lt z x
theorem Cm.tr' {w0 : World} {b : Nat} {l0 : List El} {cmp : Value} {lt : El -> El -> Prop} (h : Cm w0 b l0 cmp lt) : ∀ x y z, LE lt x y -> LE lt y z -> LE lt x z := fun x y z h1 h2 => h.tr x y z h1 h2
theorem cmE {w0 w : World} {b : Nat} {zs : List Value} {l0 l : List El} {cmp : Value} {lt : El -> El -> Prop} {i j : Nat} {Q : Int -> World -> Prop} (hc : Cm w0 b l0 cmp lt) (hs : SS w0 b zs l0 w l) (hi : i < l0.length) (hj : j < l0.length)
    (hq : ∀ z W, (z < 0 ↔ lt (atE l i) (atE l j)) -> SS w0 b zs l0 W l -> Q z W) :
    CallW P cmp [(.agg #[(.int .i64 (atE l i).1), (.slice (atE l i).2.1 (atE l i).2.2.1 (atE l i).2.2.2)]), (.agg #[(.int .i64 (atE l j).1), (.slice (atE l j).2.1 (atE l j).2.2.1 (atE l j).2.2.2)])] w.drew fun e W => ∃ t : Int, e = .returned (.int .i64 t) /\ Q t W := by
  refine callW_mono (hc.call w.drew (atE l i) (atE l j) (hs.ch.trans (Ext.drew _).toChg) (hs.mem hi) (hs.mem hj)) ?_
  rintro e W ⟨z, rfl, hz, he⟩
  exact ⟨z, rfl, hq z W hz (hs.ext ((Ext.drew _).trans he))⟩
theorem midE {x y : Nat} (hx : x <= 1000000) (hy : y <= 1000000) {Q : Int -> Prop} (hq : Q (((x + y) / 2 : Nat) : Int)) :
    ∃ t36 : Int, t36 = IntKind.wrap .i64 ((x : Int) + (y : Int)) /\ ∃ t37 : Int, t37 = IntKind.wrap .u64 t36 /\ 0 <= (1 : Int) /\ ∃ t38 : Int, t38 = Int.fdiv t37 (2 ^ (min (1 : Int).toNat (IntKind.bits .u64))) /\ ∃ t39 : Int, t39 = IntKind.wrap .i64 t38 /\ Q t39 := by
  refine exW ⟨by omega, by omega⟩ ⟨_, rfl, by decide, _, rfl, ?_⟩
  have e1 : IntKind.wrap .u64 ((x : Int) + (y : Int)) = (x : Int) + (y : Int) := by
    simp only [IntKind.wrap, IntKind.bits, IntKind.signed]
    simp
    omega
  rw [e1]
  have e2 : (2 : Int) ^ (min (1 : Int).toNat (IntKind.bits .u64)) = 2 := by decide
  rw [e2, Int.fdiv_eq_ediv_of_nonneg _ (by decide)]
  refine exW ⟨by omega, by omega⟩ ?_
  have e3 : ((x : Int) + (y : Int)) / 2 = (((x + y) / 2 : Nat) : Int) := by omega
  rw [e3]
  exact hq
theorem insertion_c {w0 w : World} {b cp : Nat} {zs : List Value} {l0 l : List El} {cmp : Value} {lt : El -> El -> Prop} (hc : Cm w0 b l0 cmp lt) (h : SS w0 b zs l0 w l) (hn : l0.length <= 1000000) {a e : Nat} (hae : a <= e) (he : e <= l0.length) :
    Ret P n_slices_insertionSortCmpFunc_impl_part [.slice (some ⟨b, 0, none⟩) l0.length cp, .int .i64 a, .int .i64 e, cmp] w fun v w' => v = .tuple #[] /\ ∃ l', SS w0 b zs l0 w' l' /\ SO (LE lt) (atE l') a e /\ Win a e (atE l) (atE l') := by
  refine slices_insertionSortCmpFunc_impl_part_ret ?_
  unfold slices_insertionSortCmpFunc_impl_part
  refine exW ⟨by omega, by omega⟩ ⟨fun i W => ∃ k : Nat, i = k /\ a + 1 <= k /\ (k <= e ∨ k = a + 1) /\ ∃ l1, SS w0 b zs l0 W l1 /\ SO (LE lt) (atE l1) a k /\ Win a e (atE l) (atE l1), fun i _ => e - i.toNat, ⟨a + 1, by omega, by omega, .inr rfl, l, h, fun i j h1 h2 h3 => by omega, Win.refl _ _ _⟩, ?_⟩
  intro junk wv i ⟨k, hi, hak, hke, l1, hs, hso, hw⟩
  subst hi
  refine ifD (fun hlt => ?_) (fun hge => ?_)
  · have hke2 : k < e := by omega
    have next : ∀ (W : World) (l2 : List El), SS w0 b zs l0 W l2 -> SO (LE lt) (atE l2) a (k + 1) -> Win a e (atE l) (atE l2) ->
        ∃ t16 : Int, t16 = IntKind.wrap .i64 ((k : Int) + 1) /\ (∃ k' : Nat, t16 = k' /\ a + 1 <= k' /\ (k' <= e ∨ k' = a + 1) /\ ∃ l1, SS w0 b zs l0 W l1 /\ SO (LE lt) (atE l1) a k' /\ Win a e (atE l) (atE l1)) /\ e - t16.toNat < e - (k : Int).toNat := fun W l2 h1 h2 h3 =>
      exW ⟨by omega, by omega⟩ ⟨⟨k + 1, by omega, by omega, by omega, l2, h1, h2, h3⟩, by omega⟩
    refine ⟨fun j W => ∃ t : Nat, j = t /\ a <= t /\ t <= k /\ ∃ l2, SS w0 b zs l0 W l2 /\ SI (LE lt) (atE l2) a k t /\ Win a e (atE l) (atE l2), fun j _ => j.toNat, ⟨k, rfl, by omega, Nat.le_refl _, l1, hs, SI.start hso, hw⟩, ?_⟩
    intro junk1 wv1 j ⟨t, hj, hat, htk, l2, hs2, hsi, hw2⟩
    subst hj
    refine ifD (fun hlt2 => ?_) (fun hge2 => ?_)
    · have hta : a < t := by omega
      refine ldE hs2.rb (i := t) rfl (by omega) hs2.len ?_
      refine exW ⟨by omega, by omega⟩ (ldE hs2.rb (i := t - 1) (by omega) (by omega) hs2.len ?_)
      refine cmE hc hs2 (by omega) (by omega) fun z W hz hs3 => ?_
      refine ifD (fun hneg => ?_) (fun hpos => ?_)
      · have hl := hz.1 hneg
        unfold slices_insertionSortCmpFunc_impl_part_j0
        refine exW ⟨by omega, by omega⟩ (exW ⟨by omega, by omega⟩ (ldE hs3.rb (i := t - 1) (by omega) (by omega) hs3.len ?_))
        refine ldE hs3.rb (i := t) rfl (by omega) hs3.len ?_
        refine swE hs3 rfl (i := t) (j := t - 1) rfl (by omega) (by omega) (by omega) (by omega) fun w4 l4 hs4 hl4 => ?_
        refine exW ⟨by omega, by omega⟩ ⟨⟨t - 1, by omega, by omega, by omega, l4, hs4, ?_, ?_⟩, ?_⟩
        · rw [hl4]
          exact hsi.next htk hta (hc.asy _ _ hl)
        · rw [hl4]
          exact hw2.trans (Win.sw _ (by omega) (by omega) (by omega) (by omega))
        · show ((t : Int) - 1).toNat < (t : Int).toNat
          omega
      · exact next W l2 hs3 (hsi.done hc.tr' htk (.inr ⟨hta, fun hl => hpos (hz.2 hl)⟩)) hw2
    · have : t = a := by omega
      subst this
      exact ifF (next _ l2 (hs2.ext (Ext.drew _)) (hsi.done hc.tr' htk (.inl rfl)) hw2)
  · exact ⟨rfl, l1, hs, hso.sub (Nat.le_refl _) (by omega), hw⟩
def MergeI (w0 : World) (b : Nat) (cp : Nat) (zs : List Value) (l0 : List El) (cmp : Value) (lt : El -> El -> Prop) (N : Nat) : Prop :=
 ∀ (w : World) (l : List El) (a m e : Nat), e - a <= N -> a < m -> m < e -> e <= l0.length -> SS w0 b zs l0 w l -> SO (LE lt) (atE l) a m -> SO (LE lt) (atE l) m e ->
 Ret P n_slices_symMergeCmpFunc_impl_part [.slice (some ⟨b, 0, none⟩) l0.length cp, .int .i64 a, .int .i64 m, .int .i64 e, cmp] w fun v w' => v = .tuple #[] /\ ∃ l', SS w0 b zs l0 w' l' /\ SO (LE lt) (atE l') a e /\ Win a e (atE l) (atE l')
theorem sym_j2 {w0 W : World} {b cp N : Nat} {zs : List Value} {l0 l : List El} {cmp : Value} {lt : El -> El -> Prop} (ih : MergeI w0 b cp zs l0 cmp lt N) (hs : SS w0 b zs l0 W l) {mid en e : Nat} (h1 : mid <= en) (h2 : en <= e) (h3 : e <= l0.length) (hN : e - mid <= N)
    (s1 : SO (LE lt) (atE l) mid en) (s2 : SO (LE lt) (atE l) en e) {R : Value -> World -> Prop} (hq : ∀ W' l', SS w0 b zs l0 W' l' -> SO (LE lt) (atE l') mid e -> Win mid e (atE l) (atE l') -> R (.tuple #[]) W') :
    slices_symMergeCmpFunc_impl_part_j2 (some ⟨b, 0, none⟩) l0.length cp (e : Int) cmp (mid : Int) (en : Int) W R := by
  unfold slices_symMergeCmpFunc_impl_part_j2
  refine ifD (fun c1 => ?_) (fun c1 => ifF (hq W l hs ?_ (Win.refl _ _ _)))
  · refine ifD (fun c2 => ?_) (fun c2 => hq W l hs ?_ (Win.refl _ _ _))
    · refine Ret.at (ih W l mid en e hN (by omega) (by omega) h3 hs s1 s2) ?_
      rintro v w1 ⟨rfl, l2, hs2, hso, hw⟩
      exact ⟨rfl, hq w1 l2 hs2 hso hw⟩
    · have : en = e := by omega
      subst this; exact s1
  · have : mid = en := by omega
    subst this; exact s2
theorem sym_j1 {w0 W : World} {b cp N : Nat} {zs : List Value} {l0 l : List El} {cmp : Value} {lt : El -> El -> Prop} (ih : MergeI w0 b cp zs l0 cmp lt N) (hs : SS w0 b zs l0 W l) {a s mid en e : Nat} (h0 : a <= s) (h1 : s <= mid) (h2 : mid <= l0.length) (hN : mid - a <= N)
    (s1 : SO (LE lt) (atE l) a s) (s2 : SO (LE lt) (atE l) s mid) {R : Value -> World -> Prop} (hq : ∀ W' l', SS w0 b zs l0 W' l' -> SO (LE lt) (atE l') a mid -> Win a mid (atE l) (atE l') -> slices_symMergeCmpFunc_impl_part_j2 (some ⟨b, 0, none⟩) l0.length cp (e : Int) cmp (mid : Int) (en : Int) W' R) :
    slices_symMergeCmpFunc_impl_part_j1 (some ⟨b, 0, none⟩) l0.length cp (a : Int) (e : Int) cmp (mid : Int) (s : Int) (en : Int) W R := by
  unfold slices_symMergeCmpFunc_impl_part_j1
  refine ifD (fun c1 => ?_) (fun c1 => ifF (hq W l hs ?_ (Win.refl _ _ _)))
  · refine ifD (fun c2 => ?_) (fun c2 => hq W l hs ?_ (Win.refl _ _ _))
    · refine Ret.at (ih W l a s mid hN (by omega) (by omega) h2 hs s1 s2) ?_
      rintro v w1 ⟨rfl, l2, hs2, hso, hw⟩
      exact ⟨rfl, hq w1 l2 hs2 hso hw⟩
    · have : s = mid := by omega
      subst this; exact s1
  · have : a = s := by omega
    subst this; exact s2
theorem rot_id1 (f : Nat -> El) (m e : Nat) : rotF f m m e = f := by
  funext k; unfold rotF
  by_cases h : m <= k /\ k < m + (e - m)
  · rw [if_pos h]; congr 1; omega
  · rw [if_neg h, if_neg (by omega)]
theorem rot_id2 (f : Nat -> El) (s m : Nat) : rotF f s m m = f := by
  funext k; unfold rotF
  by_cases h : s <= k /\ k < s + (m - m)
  · omega
  · rw [if_neg h]
    by_cases h2 : s + (m - m) <= k /\ k < m
    · rw [if_pos h2]; congr 1; omega
    · rw [if_neg h2]
theorem sym_j0 {w0 w : World} {b cp N : Nat} {zs : List Value} {l0 l : List El} {cmp : Value} {lt : El -> El -> Prop} (hc : Cm w0 b l0 cmp lt) (hn : l0.length <= 1000000) (ih : MergeI w0 b cp zs l0 cmp lt N) (hs : SS w0 b zs l0 w l) {a m e mid s0 r0 : Nat}
    (ham : a < m) (hme : m < e) (he : e <= l0.length) (hN1 : mid - a <= N) (hN2 : e - mid <= N) (hA : SO (LE lt) (atE l) a m) (hB : SO (LE lt) (atE l) m e)
    (k1 : a <= s0) (k2 : s0 <= r0) (k3 : r0 <= m) (k4 : r0 <= mid) (k5 : mid + m <= e + s0) (k6 : s0 = a ∨ mid + m - s0 = e) (k7 : r0 = mid ∨ r0 = m) (k8 : a <= mid) (k9 : mid <= e) :
    slices_symMergeCmpFunc_impl_part_j0 (some ⟨b, 0, none⟩) l0.length cp (a : Int) (m : Int) (e : Int) cmp (mid : Int) ((mid : Int) + (m : Int)) (s0 : Int) (r0 : Int) w fun v w' => v = .tuple #[] /\ ∃ l', SS w0 b zs l0 w' l' /\ SO (LE lt) (atE l') a e /\ Win a e (atE l) (atE l') := by
  unfold slices_symMergeCmpFunc_impl_part_j0
  refine exW ⟨by omega, by omega⟩ ⟨fun i j W => ∃ x y : Nat, i = x /\ j = y /\ s0 <= x /\ x <= y /\ y <= r0 /\ SS w0 b zs l0 W l /\ (x = s0 ∨ s0 < x /\ LE lt (atE l (x - 1)) (atE l (mid + m - x))) /\ (y = r0 ∨ y < r0 /\ lt (atE l (mid + m - 1 - y)) (atE l y)), fun i j _ => j.toNat - i.toNat, ⟨s0, r0, rfl, rfl, Nat.le_refl _, k2, Nat.le_refl _, hs, .inl rfl, .inl rfl⟩, ?_⟩
  intro junk wv i j ⟨x, y, hi, hj, hx, hxy, hy, hs1, hlo, hhi⟩
  subst hi; subst hj
  refine ifD (fun hlt => ?_) (fun hge => ?_)
  · refine midE (by omega) (by omega) ?_
    obtain ⟨c, hcd⟩ : ∃ c, (x + y) / 2 = c := ⟨_, rfl⟩
    rw [hcd]
    have hc1 : x <= c := by omega
    have hc2 : c < y := by omega
    refine exW ⟨by omega, by omega⟩ (ldE hs1.rb (i := mid + m - 1 - c) (by omega) (by omega) hs1.len ?_)
    refine ldE hs1.rb (i := c) rfl (by omega) hs1.len ?_
    refine cmE hc hs1 (by omega) (by omega) fun z W hz hs2 => ?_
    refine ifN (fun hno => ?_) (fun hyes => ?_)
    · have hno2 : ¬ lt (atE l (mid + m - 1 - c)) (atE l c) := fun hl => by have := hz.2 hl; simp at hno; omega
      refine exW ⟨by omega, by omega⟩ ⟨⟨c + 1, y, by omega, rfl, by omega, by omega, hy, hs2, .inr ⟨by omega, ?_⟩, hhi⟩, ?_⟩
      · rw [show c + 1 - 1 = c by omega, show mid + m - (c + 1) = mid + m - 1 - c by omega]
        exact hno2
      · show (y : Int).toNat - ((c : Int) + 1).toNat < (y : Int).toNat - (x : Int).toNat
        omega
    · have hl : lt (atE l (mid + m - 1 - c)) (atE l c) := hz.1 (by simpa using hyes)
      refine ⟨⟨x, c, rfl, rfl, hx, hc1, by omega, hs2, hlo, .inr ⟨by omega, hl⟩⟩, ?_⟩
      show (c : Int).toNat - (x : Int).toNat < (y : Int).toNat - (x : Int).toNat
      omega
  · have hxe : y = x := by omega
    subst hxe
    have hcut : Cut (LE lt) (atE l) a m e mid y := by
      refine ⟨by omega, by omega, by omega, by omega, by omega, ?_, ?_⟩
      · rcases hlo with h | ⟨h, h'⟩
        · subst h
          rcases k6 with h | h
          · exact .inl h
          · exact .inr (.inl h)
        · exact .inr (.inr ⟨by omega, by omega, h'⟩)
      · rcases hhi with h | ⟨h, h'⟩
        · subst h
          rcases k7 with h | h
          · exact .inr (.inl (by omega))
          · exact .inl h
        · refine .inr (.inr ⟨by omega, by omega, ?_⟩)
          rw [show mid + m - y - 1 = mid + m - 1 - y by omega]
          exact hc.asy _ _ h'
    obtain ⟨p1, p2, p3, p4, px⟩ := hcut.split hc.tr' hA hB
    have q1 := hcut.lo; have q2 := hcut.hi; have q3 := hcut.hm; have q4 := hcut.he; have q5 := hcut.hb
    refine exW ⟨by omega, by omega⟩ ?_
    rw [show (mid : Int) + (m : Int) - (y : Int) = ((mid + m - y : Nat) : Int) by omega]
    have fin : ∀ (W : World) (l1 : List El), SS w0 b zs l0 W l1 -> atE l1 = rotF (atE l) y m (mid + m - y) ->
        slices_symMergeCmpFunc_impl_part_j1 (some ⟨b, 0, none⟩) l0.length cp (a : Int) (e : Int) cmp (mid : Int) (y : Int) ((mid + m - y : Nat) : Int) W fun v w' => v = .tuple #[] /\ ∃ l', SS w0 b zs l0 w' l' /\ SO (LE lt) (atE l') a e /\ Win a e (atE l) (atE l') := by
      intro W l1 hs2 hl1
      have hw1 : Win a e (atE l) (atE l1) := by rw [hl1]; exact (Win.rot _ q2 (by omega)).wide q1 q5
      refine sym_j1 ih hs2 q1 q3 (by omega) hN1 (by rw [hl1]; exact p1) (by rw [hl1]; exact p2) fun W2 l2 hs3 so2 w2 => ?_
      refine sym_j2 ih hs3 (by omega) q5 he hN2 ?_ ?_ fun W3 l3 hs4 so3 w3 => ?_
      · exact SO.congr p3 fun i h1 h2 => by rw [w2.1 i (by omega), hl1]
      · exact SO.congr p4 fun i h1 h2 => by rw [w2.1 i (by omega), hl1]
      · refine ⟨rfl, l3, hs4, SO.join (f := atE l1) (mid := mid) (so2.congr fun i h1 h2 => w3.1 i (by omega)) so3 (by rw [hl1]; exact px) (fun i h1 h2 => ?_) (fun i h1 h2 => ?_), hw1.trans ((w2.wide (Nat.le_refl _) k9).trans (w3.wide k8 (Nat.le_refl _)))⟩
        · obtain ⟨k, c1, c2, c3⟩ := w2.2 i h1 h2
          exact ⟨k, c1, c2, (w3.1 i (by omega)).trans c3⟩
        · obtain ⟨k, c1, c2, c3⟩ := w3.2 i h1 h2
          exact ⟨k, c1, c2, c3.trans (w2.1 k (by omega))⟩
    refine ifD (fun c1 => ?_) (fun c1 => ifF (fin wv l hs1 ?_))
    · refine ifD (fun c2 => ?_) (fun c2 => fin wv l hs1 ?_)
      · refine Ret.at (rotate_c cmp hs1 hn (a := y) (m := m) (e := mid + m - y) (by omega) (by omega) (by omega)) ?_
        rintro v w1 ⟨rfl, l2, hs2, hl2⟩
        exact ⟨rfl, fin w1 l2 hs2 hl2⟩
      · rw [show mid + m - y = m by omega, rot_id2]
    · rw [show y = m by omega, rot_id1]
theorem symMerge_c {w0 : World} {b cp : Nat} {zs : List Value} {l0 : List El} {cmp : Value} {lt : El -> El -> Prop} (hc : Cm w0 b l0 cmp lt) (hn : l0.length <= 1000000) : ∀ N, MergeI w0 b cp zs l0 cmp lt N
  | 0 => fun w l a m e h1 h2 h3 => by omega
  | N + 1 => by
    intro w l a m e hN ham hme he hs hA hB
    refine slices_symMergeCmpFunc_impl_part_ret ?_
    unfold slices_symMergeCmpFunc_impl_part
    refine exW ⟨by omega, by omega⟩ (ifD (fun h1 => ?_) (fun h1 => exW ⟨by omega, by omega⟩ (ifD (fun h2 => ?_) (fun h2 => ?_))))
    · have hm : m = a + 1 := by omega
      subst hm
      refine ⟨fun i j W => ∃ x y : Nat, i = x /\ j = y /\ a + 1 <= x /\ x <= y /\ y <= e /\ SS w0 b zs l0 W l /\ (x = a + 1 ∨ a + 1 < x /\ lt (atE l (x - 1)) (atE l a)) /\ (y = e ∨ y < e /\ LE lt (atE l a) (atE l y)), fun i j _ => j.toNat - i.toNat, ⟨a + 1, e, by omega, rfl, Nat.le_refl _, by omega, Nat.le_refl _, hs, .inl rfl, .inl rfl⟩, ?_⟩
      intro junk wv i j ⟨x, y, hi, hj, hx, hxy, hy, hs1, hlo, hhi⟩
      subst hi; subst hj
      refine ifD (fun hlt => ?_) (fun hge => ?_)
      · refine midE (by omega) (by omega) ?_
        obtain ⟨c, hcd⟩ : ∃ c, (x + y) / 2 = c := ⟨_, rfl⟩
        rw [hcd]
        have hc1 : x <= c := by omega
        have hc2 : c < y := by omega
        refine ldE hs1.rb (i := c) rfl (by omega) hs1.len (ldE hs1.rb (i := a) rfl (by omega) hs1.len ?_)
        refine cmE hc hs1 (by omega) (by omega) fun z W hz hs2 => ?_
        refine ifD (fun hyes => ?_) (fun hno => ?_)
        · refine exW ⟨by omega, by omega⟩ ⟨⟨c + 1, y, by omega, rfl, by omega, by omega, hy, hs2, .inr ⟨by omega, hz.1 hyes⟩, hhi⟩, ?_⟩
          show (y : Int).toNat - ((c : Int) + 1).toNat < (y : Int).toNat - (x : Int).toNat
          omega
        · refine ⟨⟨x, c, rfl, rfl, hx, hc1, by omega, hs2, hlo, .inr ⟨by omega, fun hl => hno (hz.2 hl)⟩⟩, ?_⟩
          show (c : Int).toNat - (x : Int).toNat < (y : Int).toNat - (x : Int).toNat
          omega
      · have hxe : y = x := by omega
        subst hxe
        refine ⟨fun k W => ∃ q : Nat, k = q /\ a <= q /\ q + 1 <= y /\ ∃ l1, SS w0 b zs l0 W l1 /\ atE l1 = upF (atE l) a q, fun k _ => e - k.toNat, ⟨a, rfl, Nat.le_refl _, by omega, l, hs1, by funext k; exact (upF_zero _ a k).symm⟩, ?_⟩
        intro junk2 wv2 k ⟨q, hk, haq, hqy, l1, hs2, hl1⟩
        subst hk
        refine exW ⟨by omega, by omega⟩ (ifD (fun hlt => ?_) (fun hge => ?_))
        · refine exW ⟨by omega, by omega⟩ (exW ⟨by omega, by omega⟩ (ldE hs2.rb (i := q + 1) (by omega) (by omega) hs2.len (ldE hs2.rb (i := q) rfl (by omega) hs2.len ?_)))
          refine swE hs2 rfl (i := q) (j := q + 1) rfl (by omega) (by omega) (by omega) (by omega) fun w3 l3 hs3 hl3 => ?_
          refine exW ⟨by omega, by omega⟩ ⟨⟨q + 1, by omega, by omega, by omega, l3, hs3, ?_⟩, ?_⟩
          · rw [hl3, hl1]; funext k; exact upF_succ _ haq k
          · show e - ((q : Int) + 1).toNat < e - (q : Int).toNat
            omega
        · have hq : q = y - 1 := by omega
          subst hq
          refine ⟨rfl, l1, hs2, ?_, ?_⟩
          · rw [hl1]
            refine up_sorted hc.tr' hB hx hy ?_ ?_
            · rcases hlo with h | ⟨h, h'⟩
              · exact .inl h
              · exact .inr ⟨h, hc.asy _ _ h'⟩
            · exact hhi
          · rw [hl1]; exact Win.up _ (by omega) (by omega)
    · have hm : e = m + 1 := by omega
      subst hm
      refine ⟨fun i j W => ∃ x y : Nat, i = x /\ j = y /\ a <= x /\ x <= y /\ y <= m /\ SS w0 b zs l0 W l /\ (x = a ∨ a < x /\ LE lt (atE l (x - 1)) (atE l m)) /\ (y = m ∨ y < m /\ lt (atE l m) (atE l y)), fun i j _ => j.toNat - i.toNat, ⟨a, m, rfl, rfl, Nat.le_refl _, by omega, Nat.le_refl _, hs, .inl rfl, .inl rfl⟩, ?_⟩
      intro junk wv i j ⟨x, y, hi, hj, hx, hxy, hy, hs1, hlo, hhi⟩
      subst hi; subst hj
      refine ifD (fun hlt => ?_) (fun hge => ?_)
      · refine midE (by omega) (by omega) ?_
        obtain ⟨c, hcd⟩ : ∃ c, (x + y) / 2 = c := ⟨_, rfl⟩
        rw [hcd]
        have hc1 : x <= c := by omega
        have hc2 : c < y := by omega
        refine ldE hs1.rb (i := m) rfl (by omega) hs1.len (ldE hs1.rb (i := c) rfl (by omega) hs1.len ?_)
        refine cmE hc hs1 (by omega) (by omega) fun z W hz hs2 => ?_
        refine ifN (fun hno => ?_) (fun hyes => ?_)
        · have hno2 : ¬ lt (atE l m) (atE l c) := fun hl => by have := hz.2 hl; simp at hno; omega
          refine exW ⟨by omega, by omega⟩ ⟨⟨c + 1, y, by omega, rfl, by omega, by omega, hy, hs2, .inr ⟨by omega, hno2⟩, hhi⟩, ?_⟩
          show (y : Int).toNat - ((c : Int) + 1).toNat < (y : Int).toNat - (x : Int).toNat
          omega
        · refine ⟨⟨x, c, rfl, rfl, hx, hc1, by omega, hs2, hlo, .inr ⟨by omega, hz.1 (by simpa using hyes)⟩⟩, ?_⟩
          show (c : Int).toNat - (x : Int).toNat < (y : Int).toNat - (x : Int).toNat
          omega
      · have hxe : y = x := by omega
        subst hxe
        refine ⟨fun k W => ∃ q : Nat, k = q /\ y <= q /\ q <= m /\ ∃ l1, SS w0 b zs l0 W l1 /\ atE l1 = downF (atE l) q m, fun k _ => k.toNat, ⟨m, rfl, hy, Nat.le_refl _, l, hs1, by funext k; exact (downF_zero _ m k).symm⟩, ?_⟩
        intro junk2 wv2 k ⟨q, hk, hyq, hqm, l1, hs2, hl1⟩
        subst hk
        refine ifD (fun hlt => ?_) (fun hge => ?_)
        · refine exW ⟨by omega, by omega⟩ (exW ⟨by omega, by omega⟩ (ldE hs2.rb (i := q - 1) (by omega) (by omega) hs2.len (ldE hs2.rb (i := q) rfl (by omega) hs2.len ?_)))
          refine swE hs2 rfl (i := q) (j := q - 1) rfl (by omega) (by omega) (by omega) (by omega) fun w3 l3 hs3 hl3 => ?_
          refine exW ⟨by omega, by omega⟩ ⟨⟨q - 1, by omega, by omega, by omega, l3, hs3, ?_⟩, ?_⟩
          · rw [hl3, hl1]; funext k
            have := downF_succ (atE l) (i := q - 1) (m := m) (by omega) k
            rwa [show q - 1 + 1 = q by omega] at this
          · show ((q : Int) - 1).toNat < (q : Int).toNat
            omega
        · have hq : q = y := by omega
          subst hq
          refine ⟨rfl, l1, hs2, ?_, ?_⟩
          · rw [hl1]
            refine down_sorted hc.tr' hA hx hy hlo ?_
            rcases hhi with h | ⟨h, h'⟩
            · exact .inl h
            · exact .inr ⟨h, hc.asy _ _ h'⟩
          · rw [hl1]; exact Win.down _ hx hy (by omega)
    · refine midE (by omega) (by omega) ?_
      obtain ⟨mid, hmid⟩ : ∃ c, (a + e) / 2 = c := ⟨_, rfl⟩
      rw [hmid]
      refine exW ⟨by omega, by omega⟩ (ifD (fun h3 => ?_) (fun h3 => ?_))
      · refine exW ⟨by omega, by omega⟩ ?_
        rw [show (mid : Int) + (m : Int) - (e : Int) = ((mid + m - e : Nat) : Int) by omega]
        exact sym_j0 hc hn (symMerge_c hc hn N) hs ham hme he (by omega) (by omega) hA hB (by omega) (by omega) (by omega) (by omega) (by omega) (.inr (by omega)) (.inl rfl) (by omega) (by omega)
      · exact sym_j0 hc hn (symMerge_c hc hn N) hs ham hme he (by omega) (by omega) hA hB (by omega) (by omega) (by omega) (by omega) (by omega) (.inl rfl) (.inr rfl) (by omega) (by omega)
theorem stable_c {w0 w : World} {b cp : Nat} {zs : List Value} {l0 l : List El} {cmp : Value} {lt : El -> El -> Prop} (hc : Cm w0 b l0 cmp lt) (h : SS w0 b zs l0 w l) (hn : l0.length <= 30) :
    Ret P n_slices_stableCmpFunc_impl_part [.slice (some ⟨b, 0, none⟩) l0.length cp, .int .i64 (l0.length : Nat), cmp] w fun v w' => v = .tuple #[] /\ ∃ l', SS w0 b zs l0 w' l' /\ SO (LE lt) (atE l') 0 l0.length := by
  refine slices_stableCmpFunc_impl_part_ret ?_
  unfold slices_stableCmpFunc_impl_part
  refine ⟨fun a e W => ∃ l1, SS w0 b zs l0 W l1 /\ (a = 0 /\ e = 20 ∨ a = 20 /\ e = 40 /\ 20 <= l0.length /\ SO (LE lt) (atE l1) 0 20), fun a _ _ => 40 - a.toNat, ⟨l, h, .inl ⟨rfl, rfl⟩⟩, ?_⟩
  intro junk wv a e ⟨l1, hs, hcase⟩
  refine ifD (fun hle => ?_) (fun hgt => ?_)
  · rcases hcase with ⟨rfl, rfl⟩ | ⟨rfl, rfl, _⟩
    · refine Ret.at (insertion_c hc hs (by omega) (a := 0) (e := 20) (by omega) (by omega)) ?_
      rintro v w1 ⟨rfl, l2, hs2, hso, _⟩
      refine ⟨rfl, exW ⟨by omega, by omega⟩ ⟨⟨l2, hs2, .inr ⟨rfl, rfl, by omega, hso⟩⟩, show 40 - (20 : Int).toNat < 40 - (0 : Int).toNat from by decide⟩⟩
    · omega
  · have done : ∀ W l2, SS w0 b zs l0 W l2 -> SO (LE lt) (atE l2) 0 l0.length -> Value.tuple #[] = .tuple #[] /\ ∃ l', SS w0 b zs l0 W l' /\ SO (LE lt) (atE l') 0 l0.length := fun W l2 h1 h2 => ⟨rfl, l2, h1, h2⟩
    rcases hcase with ⟨rfl, rfl⟩ | ⟨rfl, rfl, h20, hso0⟩
    · refine Ret.at (insertion_c hc hs (by omega) (a := 0) (e := l0.length) (by omega) (Nat.le_refl _)) ?_
      rintro v w1 ⟨rfl, l2, hs2, hso, _⟩
      refine ⟨rfl, fun bs W => bs = 20 /\ ∃ l3, SS w0 b zs l0 W l3 /\ SO (LE lt) (atE l3) 0 l0.length, fun _ _ => 0, ⟨rfl, l2, hs2, hso⟩, ?_⟩
      rintro junk2 wv2 bs ⟨rfl, l3, hs3, hso3⟩
      exact ifD (fun h => by omega) (fun h => done _ _ hs3 hso3)
    · refine Ret.at (insertion_c hc hs (by omega) (a := 20) (e := l0.length) (by omega) (Nat.le_refl _)) ?_
      rintro v w1 ⟨rfl, l2, hs2, hso, hw⟩
      have hso2 : SO (LE lt) (atE l2) 0 20 := hso0.congr fun i h1 h2 => hw.1 i (by omega)
      refine ⟨rfl, fun bs W => ∃ l3, SS w0 b zs l0 W l3 /\ (bs = 20 /\ SO (LE lt) (atE l3) 0 20 /\ SO (LE lt) (atE l3) 20 l0.length ∨ bs = 40 /\ SO (LE lt) (atE l3) 0 l0.length), fun bs _ => 40 - bs.toNat, ⟨l2, hs2, .inl ⟨rfl, hso2, hso⟩⟩, ?_⟩
      rintro junk2 wv2 bs ⟨l3, hs3, hc3⟩
      refine ifD (fun hlt => ?_) (fun hge => ?_)
      · rcases hc3 with ⟨rfl, o1, o2⟩ | ⟨rfl, _⟩
        · refine exW ⟨by omega, by omega⟩ ⟨fun x y W => x = 0 /\ y = 40 /\ W = wv2, fun _ _ _ => 0, ⟨rfl, rfl, rfl⟩, ?_⟩
          rintro junk3 wv3 x y ⟨rfl, rfl, rfl⟩
          refine ifD (fun h => by omega) (fun _ => exW ⟨by omega, by omega⟩ (ifD (fun _ => ?_) (fun h => by omega)))
          refine Ret.at (symMerge_c hc (by omega) l0.length _ _ 0 20 l0.length (by omega) (by omega) (by omega) (Nat.le_refl _) hs3 o1 o2) ?_
          rintro v w4 ⟨rfl, l4, hs4, hso4, _⟩
          refine ⟨rfl, ?_⟩
          unfold slices_stableCmpFunc_impl_part_j0
          exact exW ⟨by omega, by omega⟩ ⟨⟨l4, hs4, .inr ⟨rfl, hso4⟩⟩, show 40 - (20 * 2 : Int).toNat < 40 - (20 : Int).toNat from by decide⟩
        · omega
      · rcases hc3 with ⟨rfl, o1, o2⟩ | ⟨rfl, o⟩
        · exact done _ _ hs3 (by rw [show l0.length = 20 by omega]; exact o1)
        · exact done _ _ hs3 o
end Go.Proofs.YtbgokfhcgcoipaaGreat
namespace Go.Proofs.YtbgokfhcgcoipaaGreat
open Go Go.Proofs.YtbgokfhcgcoipaaGreat.Sx
def intOk : List D0 -> Bool
  | [.bool b, .ints z] => natOk z && (!b || !z.isEmpty)
  | _ => false
theorem intOk_len {b : Bool} {z : List Int} {n : Nat} (h : z.length = n) : (decide ((0 : Int) < (n : Nat))) = !z.isEmpty := by
  cases z with
  | nil => simp at h; simp [<- h]
  | cons a r => simp at h; simp [<- h]
theorem spec_IntOk_c {w : World} {xs : List Value} {dx : List D0} (h : Reps w xs dx) (hc : dx.map D0.code = [.bool, .ints]) :
    Ret P n_spec_IntOk [.agg ⟨xs⟩] w fun v w' => v = .bool (intOk dx) /\ Ext w w' := by
  obtain ⟨a0, a1p, a1n, a1c, a1z, rfl, rfl, ha⟩ := open_Signed h hc
  refine spec_IntOk_ret ?_
  unfold spec_IntOk
  intro r w1 hn
  have x := hn.ext
  refine ⟨_, _, _, hn.blk.load (by kernel_rfl) rfl, ?_⟩
  refine Ret.at (spec_NatOk_c (ha.ext x)) ?_
  rintro v w2 ⟨hv, y⟩
  subst hv
  have b := hn.blk.ext y; have x := x.trans y
  refine ⟨_, rfl, fun e => ⟨_, b.load (by kernel_rfl) rfl, ifN (fun hb => ⟨?_, x⟩) (fun hb => ?_)⟩, fun e => ⟨by simp [intOk, e], x⟩⟩
  · simp [intOk, e, hb]
  · exact ⟨_, _, _, b.load (by kernel_rfl) rfl, by rw [intOk_len (b := a0) ha.1]; simp [intOk, e, hb], x⟩
theorem impl_IntOk_c {w : World} {xs : List Value} {dx : List D0} (h : Reps w xs dx) (hc : dx.map D0.code = [.bool, .ints]) :
    Ret P n_impl_IntOk [.agg ⟨xs⟩] w fun v w' => v = .bool (intOk dx) /\ Ext w w' := by
  obtain ⟨a0, a1p, a1n, a1c, a1z, rfl, rfl, ha⟩ := open_Signed h hc
  refine impl_IntOk_ret ?_
  unfold impl_IntOk
  intro r w1 hn
  have x := hn.ext
  refine ⟨_, _, _, hn.blk.load (by kernel_rfl) rfl, ?_⟩
  refine Ret.at (impl_NatOk_c (ha.ext x)) ?_
  rintro v w2 ⟨hv, y⟩
  subst hv
  have b := hn.blk.ext y; have x := x.trans y
  refine ⟨_, rfl, fun e => ⟨_, b.load (by kernel_rfl) rfl, ifN (fun hb => ⟨?_, x⟩) (fun hb => ?_)⟩, fun e => ⟨by simp [intOk, e], x⟩⟩
  · simp [intOk, e, hb]
  · exact ⟨_, _, _, b.load (by kernel_rfl) rfl, by rw [intOk_len (b := a0) ha.1]; simp [intOk, e, hb], x⟩
def icmp : List D0 -> List D0 -> Int
  | [.bool a, .ints x], [.bool b, .ints y] => if !(intOk [.bool a, .ints x]) || !(intOk [.bool b, .ints y]) then 0 else if a && !b then -1 else if !a && b then 1 else if a then cmpL y x else cmpL x y
  | _, _ => 0
theorem spec_IntCmp_c {w : World} {xs ys : List Value} {dx dy : List D0} (h : Reps w xs dx) (k : Reps w ys dy) (hc : dx.map D0.code = [.bool, .ints]) (kc : dy.map D0.code = [.bool, .ints]) :
    Ret P n_spec_IntCmp [.agg ⟨xs⟩, .agg ⟨ys⟩] w fun v w' => v = .int .i64 (icmp dx dy) /\ Ext w w' := by
  have hr := h; have kr := k
  obtain ⟨a0, a1p, a1n, a1c, a1z, rfl, rfl, ha⟩ := open_Signed h hc
  obtain ⟨b0, b1p, b1n, b1c, b1z, rfl, rfl, hb⟩ := open_Signed k kc
  refine spec_IntCmp_ret ?_
  unfold spec_IntCmp
  intro r w1 hn1 r1 w2 hn2
  have x := hn1.ext.trans hn2.ext
  have k0 := hn1.blk.ext hn2.ext; have k1 := hn2.blk
  have L : ∀ W, Ext w2 W -> Ext w W := fun W hW => x.trans hW
  -- the tail: both right
  have J1 : ∀ W t, Ext w2 W -> intOk [.bool a0, .ints a1z] = true -> intOk [.bool b0, .ints b1z] = true -> t = (a0 && !b0) -> spec_IntCmp_j1 r r1 t W fun v w' => v = .int .i64 (icmp [.bool a0, .ints a1z] [.bool b0, .ints b1z]) /\ Ext w w' := by
    intro W t hW h1 h2 ht
    have q0 := k0.ext hW; have q1 := k1.ext hW; have x := x.trans hW
    unfold spec_IntCmp_j1
    have fin : ∀ t32, t32 = a0 -> (a0 && !b0) = false -> (!a0 && b0) = false ->
        ((t32 = true -> ∃ (t34_p : Option Addr) (t34_n : Nat) (t34_c : Nat), Loads P T_s_int ((⟨r1, 0, none⟩ : Addr).add 1) (.slice t34_p t34_n t34_c) W /\ ∃ (t36_p : Option Addr) (t36_n : Nat) (t36_c : Nat), Loads P T_s_int ((⟨r, 0, none⟩ : Addr).add 1) (.slice t36_p t36_n t36_c) W /\ Calls P n_spec_l02Cmp ⟨[(.slice t34_p t34_n t34_c), (.slice t36_p t36_n t36_c)]⟩ W fun e wv_3 =>
          ∃ (t37 : Int), e = .returned (.int .i64 t37) /\ (Value.int .i64 t37 = .int .i64 (icmp [.bool a0, .ints a1z] [.bool b0, .ints b1z]) /\ Ext w wv_3)) /\
        (t32 = false -> ∃ (t39_p : Option Addr) (t39_n : Nat) (t39_c : Nat), Loads P T_s_int ((⟨r, 0, none⟩ : Addr).add 1) (.slice t39_p t39_n t39_c) W /\ ∃ (t41_p : Option Addr) (t41_n : Nat) (t41_c : Nat), Loads P T_s_int ((⟨r1, 0, none⟩ : Addr).add 1) (.slice t41_p t41_n t41_c) W /\ Calls P n_spec_l02Cmp ⟨[(.slice t39_p t39_n t39_c), (.slice t41_p t41_n t41_c)]⟩ W fun e wv_4 =>
          ∃ (t42 : Int), e = .returned (.int .i64 t42) /\ (Value.int .i64 t42 = .int .i64 (icmp [.bool a0, .ints a1z] [.bool b0, .ints b1z]) /\ Ext w wv_4))) := by
      intro t32 ht32 e1 e2
      subst ht32
      refine ⟨fun e => ⟨_, _, _, q1.load (by kernel_rfl) rfl, _, _, _, q0.load (by kernel_rfl) rfl, ?_⟩, fun e => ⟨_, _, _, q0.load (by kernel_rfl) rfl, _, _, _, q1.load (by kernel_rfl) rfl, ?_⟩⟩
      · refine Ret.at (spec_l02Cmp_c (hb.ext x) (ha.ext x)) ?_
        rintro v w3 ⟨hv, y⟩
        subst hv
        exact ⟨_, rfl, by simp only [icmp, h1, h2, e1, e2]; simp [e], x.trans y⟩
      · refine Ret.at (spec_l02Cmp_c (ha.ext x) (hb.ext x)) ?_
        rintro v w3 ⟨hv, y⟩
        subst hv
        exact ⟨_, rfl, by simp only [icmp, h1, h2, e1, e2]; simp [e], x.trans y⟩
    refine ⟨fun e => ⟨?_, x⟩, fun e => ?_⟩
    · rw [ht] at e; simp only [icmp, h1, h2, e]; rfl
    · rw [ht] at e
      refine ⟨_, q0.load (by kernel_rfl) rfl, ifN (fun ha0 => ?_) (fun ha0 => ?_)⟩
      · refine ⟨_, q1.load (by kernel_rfl) rfl, fun hb0 => ⟨?_, x⟩, fun hb0 => ⟨_, q0.load (by kernel_rfl) rfl, fin _ rfl e (by simp [ha0, hb0])⟩⟩
        subst ha0; subst hb0; simp only [icmp, h1, h2]; rfl
      · exact ifF ⟨_, q0.load (by kernel_rfl) rfl, fin _ rfl e (by simp [ha0])⟩
  have J0 : ∀ W t, Ext w2 W -> t = (!(intOk [.bool a0, .ints a1z]) || !(intOk [.bool b0, .ints b1z])) -> spec_IntCmp_j0 r r1 t W fun v w' => v = .int .i64 (icmp [.bool a0, .ints a1z] [.bool b0, .ints b1z]) /\ Ext w w' := by
    intro W t hW ht
    have q0 := k0.ext hW; have q1 := k1.ext hW
    unfold spec_IntCmp_j0
    refine ⟨fun e => ⟨?_, L W hW⟩, fun e => ?_⟩
    · rw [ht] at e; simp only [icmp, e]; rfl
    · rw [ht] at e
      simp only [Bool.or_eq_false_iff, Bool.not_eq_false'] at e
      refine ⟨_, q0.load (by kernel_rfl) rfl, fun h0 => ⟨_, q1.load (by kernel_rfl) rfl, J1 W _ hW e.1 e.2 (by simp [h0])⟩, fun h0 => J1 W _ hW e.1 e.2 (by simp [h0])⟩
  refine ⟨_, _, _, _, k0.loadA0 (by kernel_rfl), ?_⟩
  refine Ret.at (spec_IntOk_c (hr.ext x) rfl) ?_
  rintro v w3 ⟨hv, y⟩
  subst hv
  refine ⟨_, rfl, ifN (fun e => J0 w3 _ y (by simp [e])) (fun e => ?_)⟩
  refine ⟨_, _, _, _, (k1.ext y).loadA0 (by kernel_rfl), ?_⟩
  refine Ret.at (spec_IntOk_c (kr.ext (x.trans y)) rfl) ?_
  rintro v w4 ⟨hv, y2⟩
  subst hv
  exact ⟨_, rfl, J0 w4 _ (y.trans y2) (by simp [e])⟩
end Go.Proofs.YtbgokfhcgcoipaaGreat
namespace Go.Proofs.YtbgokfhcgcoipaaGreat
open Go Go.Proofs.YtbgokfhcgcoipaaGreat.Sx
def val : List Int -> Int
  | [] => 0
  | x :: r => x + 1000000000 * val r
def Limbs (l : List Int) : Prop := ∀ x ∈ l, 0 <= x /\ x < 1000000000
def Canon (l : List Int) : Prop := Limbs l /\ l.getLast? ≠ some 0
def digs (n : Nat) : List Int := if h : n = 0 then [] else ((n % 1000000000 : Nat) : Int) :: digs (n / 1000000000)
termination_by n
decreasing_by omega
theorem natOk_spec {l : List Int} : natOk l = true ↔ Canon l /\ l.length <= 50 := by
  unfold natOk Canon Limbs
  simp only [Bool.and_eq_true, List.all_eq_true, isLimb, decide_eq_true_eq, Bool.not_eq_true', decide_eq_false_iff_not]
  constructor
  · rintro ⟨⟨h1, h2⟩, h3⟩
    exact ⟨⟨fun x hx => by have := h1 x hx; omega, h3⟩, h2⟩
  · rintro ⟨⟨h1, h3⟩, h2⟩
    exact ⟨⟨fun x hx => by have := h1 x hx; omega, h2⟩, h3⟩
theorem Limbs.nil : Limbs [] := fun x hx => by simp at hx
theorem Limbs.cons {x : Int} {r : List Int} : Limbs (x :: r) ↔ (0 <= x /\ x < 1000000000) /\ Limbs r := by simp [Limbs]
theorem Limbs.append {a b : List Int} : Limbs (a ++ b) ↔ Limbs a /\ Limbs b := by
  simp only [Limbs, List.mem_append]
  exact ⟨fun h => ⟨fun x hx => h x (.inl hx), fun x hx => h x (.inr hx)⟩, fun h x hx => hx.elim (h.1 x) (h.2 x)⟩
theorem Limbs.take {a : List Int} (h : Limbs a) (k : Nat) : Limbs (a.take k) := fun x hx => h x (List.mem_of_mem_take hx)
theorem Limbs.getD {a : List Int} (h : Limbs a) (k : Nat) : 0 <= a.getD k 0 /\ a.getD k 0 < 1000000000 := by
  by_cases hk : k < a.length
  · rw [List.getD_eq_getElem?_getD, List.getElem?_eq_getElem hk]
    exact h _ (List.getElem_mem hk)
  · rw [getD_beyond (by omega)]; omega
theorem val_nonneg : ∀ {l : List Int}, Limbs l -> 0 <= val l
  | [], _ => Int.le_refl _
  | x :: r, h => by
    have h := Limbs.cons.1 h
    have := val_nonneg h.2
    simp only [val]; omega
theorem val_append : ∀ (a b : List Int), val (a ++ b) = val a + 1000000000 ^ a.length * val b
  | [], b => by simp [val]
  | x :: r, b => by
    simp only [List.cons_append, val, val_append r b, List.length_cons, Int.pow_succ]
    rw [Int.mul_add, <- Int.add_assoc, <- Int.mul_assoc, Int.mul_comm 1000000000 (1000000000 ^ r.length)]
theorem val_lt : ∀ {l : List Int}, Limbs l -> val l < 1000000000 ^ l.length
  | [], _ => by simp [val]
  | x :: r, h => by
    have h := Limbs.cons.1 h
    have := val_lt h.2
    simp only [val, List.length_cons, Int.pow_succ]
    omega
theorem val_take_succ (l : List Int) (k : Nat) : val (l.take (k + 1)) = val (l.take k) + 1000000000 ^ k * l.getD k 0 := by
  by_cases hk : k < l.length
  · rw [List.take_add_one, List.getElem?_eq_getElem hk, Option.toList_some, val_append, List.getD_eq_getElem?_getD, List.getElem?_eq_getElem hk]
    have : (l.take k).length = k := by simp; omega
    rw [this]; simp [val]
  · rw [List.take_of_length_le (by omega), List.take_of_length_le (by omega), getD_beyond (by omega)]; simp
theorem val_snoc (a : List Int) (x : Int) : val (a ++ [x]) = val a + 1000000000 ^ a.length * x := by
  rw [val_append]; simp [val]
theorem digs_zero : digs 0 = [] := by rw [digs]; simp
theorem digs_pos {n : Nat} (h : n ≠ 0) : digs n = ((n % 1000000000 : Nat) : Int) :: digs (n / 1000000000) := by rw [digs]; simp [h]
theorem digs_limbs : ∀ (n : Nat), Limbs (digs n) := by
  intro n
  induction n using Nat.strongRecOn with
  | ind n ih =>
    by_cases h : n = 0
    · subst h; rw [digs_zero]; exact Limbs.nil
    · rw [digs_pos h, Limbs.cons]
      exact ⟨by omega, ih _ (by omega)⟩
theorem val_digs : ∀ (n : Nat), val (digs n) = n := by
  intro n
  induction n using Nat.strongRecOn with
  | ind n ih =>
    by_cases h : n = 0
    · subst h; rw [digs_zero]; rfl
    · rw [digs_pos h, val, ih _ (by omega)]
      omega
theorem digs_last : ∀ (n : Nat), (digs n).getLast? ≠ some 0 := by
  intro n
  induction n using Nat.strongRecOn with
  | ind n ih =>
    by_cases h : n = 0
    · subst h; rw [digs_zero]; simp
    · rw [digs_pos h]
      by_cases h2 : n / 1000000000 = 0
      · rw [h2, digs_zero]
        simp; omega
      · have := ih (n / 1000000000) (by omega)
        rw [digs_pos h2, List.getLast?_cons_cons, <- digs_pos h2]
        exact this
theorem digs_canon (n : Nat) : Canon (digs n) := ⟨digs_limbs n, digs_last n⟩
theorem digs_nil {n : Nat} : digs n = [] ↔ n = 0 := by
  constructor
  · intro h
    by_cases h0 : n = 0
    · exact h0
    · rw [digs_pos h0] at h; cases h
  · rintro rfl; exact digs_zero
theorem Canon.cons {x : Int} {r : List Int} (h : Canon (x :: r)) : (0 <= x /\ x < 1000000000) /\ Canon r /\ (r = [] -> x ≠ 0) := by
  obtain ⟨h1, h2⟩ := h
  have h1 := Limbs.cons.1 h1
  refine ⟨h1.1, ⟨h1.2, ?_⟩, fun e => ?_⟩
  · intro e
    rw [List.getLast?_cons, e] at h2
    simp at h2
  · subst e; simpa using h2
theorem canon_pos : ∀ {l : List Int}, Canon l -> l ≠ [] -> 0 < val l
  | [], _, h => absurd rfl h
  | x :: r, h, _ => by
    obtain ⟨h1, h2, h3⟩ := h.cons
    simp only [val]
    have := val_nonneg h2.1
    by_cases hr : r = []
    · have := h3 hr; subst hr; simp [val]; omega
    · have := canon_pos h2 hr; omega
theorem digs_val : ∀ {l : List Int}, Canon l -> digs (val l).toNat = l
  | [], _ => by simp [val, digs_zero]
  | x :: r, h => by
    obtain ⟨h1, h2, h3⟩ := h.cons
    have hp := canon_pos h (by simp)
    have hv := val_nonneg h2.1
    have e := digs_val h2
    rw [digs_pos (by omega)]
    simp only [val] at hp ⊢
    have e1 : (x + 1000000000 * val r).toNat % 1000000000 = x.toNat := by omega
    have e2 : (x + 1000000000 * val r).toNat / 1000000000 = (val r).toNat := by omega
    rw [e1, e2, e]
    congr 1; omega
theorem canon_inj {a b : List Int} (ha : Canon a) (hb : Canon b) (h : val a = val b) : a = b := by
  rw [<- digs_val ha, <- digs_val hb, h]
def trimL (l : List Int) : List Int := (l.reverse.dropWhile (fun x => decide (x = 0))).reverse
theorem trimL_snoc (l : List Int) (x : Int) : trimL (l ++ [x]) = if x = 0 then trimL l else l ++ [x] := by
  unfold trimL
  by_cases h : x = 0 <;> simp [h]
theorem trimL_take {l : List Int} {k : Nat} (hk : k < l.length) : trimL (l.take (k + 1)) = if l.getD k 0 = 0 then trimL (l.take k) else l.take (k + 1) := by
  have e : l.take (k + 1) = l.take k ++ [l.getD k 0] := by
    rw [List.take_add_one, List.getD_eq_getElem?_getD, List.getElem?_eq_getElem hk]; rfl
  rw [e, trimL_snoc]
theorem trimL_digs : ∀ (n : Nat) {l : List Int}, l.length = n -> Limbs l -> trimL l = digs (val l).toNat
  | 0, l, hn, h => by
    have : l = [] := List.eq_nil_of_length_eq_zero hn
    subst this; simp [val, digs_zero, trimL]
  | n + 1, l, hn, h => by
    have e : l = l.take n ++ [l.getD n 0] := by
      have : l.take (n + 1) = l := List.take_of_length_le (by omega)
      conv => lhs; rw [<- this]
      rw [List.take_add_one, List.getD_eq_getElem?_getD, List.getElem?_eq_getElem (by omega)]; rfl
    rw [e, trimL_snoc]
    have ht := h.take n
    by_cases hx : l.getD n 0 = 0
    · rw [if_pos hx, trimL_digs n (by simp; omega) ht, val_snoc, hx]
      simp
    · rw [if_neg hx, <- e]
      refine (digs_val ⟨h, ?_⟩).symm
      rw [e]; simpa using hx
theorem trimL_eq {l : List Int} (h : Limbs l) : trimL l = digs (val l).toNat := trimL_digs _ rfl h
theorem trimL_len (l : List Int) : (trimL l).length <= l.length := by
  unfold trimL
  rw [List.length_reverse]
  calc (l.reverse.dropWhile _).length <= l.reverse.length := (List.dropWhile_sublist _).length_le
    _ = l.length := by simp
theorem trimL_prefix (l : List Int) : trimL l = l.take (trimL l).length := by
  unfold trimL
  obtain ⟨t, ht⟩ := List.dropWhile_suffix (fun x : Int => decide (x = 0)) (l := l.reverse)
  generalize l.reverse.dropWhile (fun x => decide (x = 0)) = d at ht ⊢
  have : l = d.reverse ++ t.reverse := by
    have := congrArg List.reverse ht
    simpa using this.symm
  rw [this, List.take_left']
  rfl
theorem lex_val : ∀ (a b : List Int), a.length = b.length -> Limbs a -> Limbs b ->
    (lexR a.reverse b.reverse = -1 /\ val a < val b) ∨ (lexR a.reverse b.reverse = 0 /\ val a = val b) ∨ (lexR a.reverse b.reverse = 1 /\ val b < val a) := by
  have key : ∀ (n : Nat) (a b : List Int), a.length = n -> b.length = n -> Limbs a -> Limbs b ->
    (lexR a.reverse b.reverse = -1 /\ val a < val b) ∨ (lexR a.reverse b.reverse = 0 /\ val a = val b) ∨ (lexR a.reverse b.reverse = 1 /\ val b < val a) := by
    intro n
    induction n with
    | zero =>
      intro a b ha hb _ _
      rw [List.eq_nil_of_length_eq_zero ha, List.eq_nil_of_length_eq_zero hb]
      exact .inr (.inl ⟨rfl, rfl⟩)
    | succ n ih =>
      intro a b ha hb la lb
      have split : ∀ {l : List Int}, l.length = n + 1 -> l = l.take n ++ [l.getD n 0] := by
        intro l hl
        have : l.take (n + 1) = l := List.take_of_length_le (by omega)
        conv => lhs; rw [<- this]
        rw [List.take_add_one, List.getD_eq_getElem?_getD, List.getElem?_eq_getElem (by omega)]; rfl
      have ea := split ha; have eb := split hb
      have lta : (a.take n).length = n := by simp; omega
      have ltb : (b.take n).length = n := by simp; omega
      have i := ih (a.take n) (b.take n) lta ltb (la.take n) (lb.take n)
      have va := val_nonneg (la.take n); have vb := val_nonneg (lb.take n)
      have wa := val_lt (la.take n); have wb := val_lt (lb.take n)
      rw [lta] at wa; rw [ltb] at wb
      have e1 : val a = val (a.take n) + 1000000000 ^ n * a.getD n 0 := by conv => lhs; rw [ea, val_snoc, lta]
      have e2 : val b = val (b.take n) + 1000000000 ^ n * b.getD n 0 := by conv => lhs; rw [eb, val_snoc, ltb]
      have r1 : a.reverse = a.getD n 0 :: (a.take n).reverse := (congrArg List.reverse ea).trans (by simp)
      have r2 : b.reverse = b.getD n 0 :: (b.take n).reverse := (congrArg List.reverse eb).trans (by simp)
      rw [r1, r2, lexR]
      have pow : (0 : Int) < 1000000000 ^ n := Int.pow_pos (by decide)
      by_cases h1 : a.getD n 0 < b.getD n 0
      · rw [if_pos h1]
        refine .inl ⟨rfl, ?_⟩
        have : (1000000000 : Int) ^ n * (a.getD n 0 + 1) <= 1000000000 ^ n * b.getD n 0 := Int.mul_le_mul_of_nonneg_left (by omega) (by omega)
        rw [Int.mul_add, Int.mul_one] at this
        omega
      · rw [if_neg h1]
        by_cases h2 : b.getD n 0 < a.getD n 0
        · rw [if_pos h2]
          refine .inr (.inr ⟨rfl, ?_⟩)
          have : (1000000000 : Int) ^ n * (b.getD n 0 + 1) <= 1000000000 ^ n * a.getD n 0 := Int.mul_le_mul_of_nonneg_left (by omega) (by omega)
          rw [Int.mul_add, Int.mul_one] at this
          omega
        · rw [if_neg h2]
          have he : a.getD n 0 = b.getD n 0 := by omega
          rw [e1, e2, he]
          rcases i with ⟨h, h'⟩ | ⟨h, h'⟩ | ⟨h, h'⟩
          · exact .inl ⟨h, by omega⟩
          · exact .inr (.inl ⟨h, by omega⟩)
          · exact .inr (.inr ⟨h, by omega⟩)
  intro a b hl la lb
  exact key _ a b rfl hl.symm la lb
theorem canon_len {a b : List Int} (ha : Canon a) (hb : Canon b) (h : a.length < b.length) : val a < val b := by
  have h1 := val_lt ha.1
  have hb0 : b ≠ [] := by intro e; subst e; simp at h
  obtain ⟨n, hn⟩ : ∃ n, b.length = n + 1 := ⟨b.length - 1, by omega⟩
  have eb : b = b.take n ++ [b.getD n 0] := by
    have : b.take (n + 1) = b := List.take_of_length_le (by omega)
    conv => lhs; rw [<- this]
    rw [List.take_add_one, List.getD_eq_getElem?_getD, List.getElem?_eq_getElem (by omega)]; rfl
  have hlast : b.getD n 0 ≠ 0 := by
    have := hb.2
    rw [eb] at this
    simpa using this
  have hp := hb.1.getD n
  have ltb : (b.take n).length = n := by simp; omega
  have e2 : val b = val (b.take n) + 1000000000 ^ n * b.getD n 0 := by conv => lhs; rw [eb, val_snoc, ltb]
  have v0 := val_nonneg (hb.1.take n)
  have p1 : (1000000000 : Int) ^ n * 1 <= 1000000000 ^ n * b.getD n 0 := Int.mul_le_mul_of_nonneg_left (by omega) (Int.le_of_lt (Int.pow_pos (by decide)))
  have p2 : (1000000000 : Int) ^ a.length <= 1000000000 ^ n := by
    have : (1000000000 : Nat) ^ a.length <= 1000000000 ^ n := Nat.pow_le_pow_right (by decide) (by omega)
    have := Int.ofNat_le.2 this
    simpa using this
  omega
theorem cmpL_val {a b : List Int} (ha : Canon a) (hb : Canon b) : (cmpL a b = -1 /\ val a < val b) ∨ (cmpL a b = 0 /\ val a = val b) ∨ (cmpL a b = 1 /\ val b < val a) := by
  unfold cmpL
  by_cases h1 : a.length < b.length
  · rw [if_pos h1]; exact .inl ⟨rfl, canon_len ha hb h1⟩
  · rw [if_neg h1]
    by_cases h2 : b.length < a.length
    · rw [if_pos h2]; exact .inr (.inr ⟨rfl, canon_len hb ha h2⟩)
    · rw [if_neg h2]
      exact lex_val a b (by omega) ha.1 hb.1
end Go.Proofs.YtbgokfhcgcoipaaGreat
namespace Go.Proofs.YtbgokfhcgcoipaaGreat
open Go Go.Proofs.YtbgokfhcgcoipaaGreat.Sx
theorem sliceT_int : sliceT P T_s_int T_int (.int .i64 0) 1 8 := ⟨by kernel_rfl, by kernel_rfl, rfl, by decide⟩
theorem run_append_none {P : Program} (w : World) (base : Nat) (t ty e : TypeId) (i : TypeInfo) (size : Nat) (ht : P.underlying t = some (.slice e)) (hi : P.info? e = some i)
    (v : Value) (n c : Nat) (xs : List Value) (hown : w.ownsRow base e size v n xs) :
    (Builtin.append_ #[t, t] ty #[v, .slice none 0 c]).run P w = .ok v w := by
  rcases hown.2 with ⟨rfl, rfl⟩ | ⟨g, cap, cur, rfl, _, _, hnc, _⟩
  · simp [Builtin.append_, run_underlying ht, sizeOf, typeInfo, hi, Builtin.lenOf, Builtin.firstCells]
  · simp [Builtin.append_, run_underlying ht, sizeOf, typeInfo, hi, Builtin.lenOf, Builtin.firstCells, hnc, storeCells]
theorem Sx.Own.appendI {w : World} {base : Nat} {p q : Option Addr} {n c m d : Nat} {zs ys : List Int} (h : Own w base T_int 1 p n c (zs.map (Value.int .i64))) (hb : base <= w.heap.size) (k : IntsR w q m d ys) (hn : n + m <= 100000000) :
    ∃ p' c' w', Appends P [T_s_int, T_s_int] [.slice p n c, .slice q m d] (.slice p' (n + m) c') w w' /\ Own w' base T_int 1 p' (n + m) c' ((zs ++ ys).map (Value.int .i64)) /\
      (∀ w0, Ext w0 w -> w0.heap.size <= base -> Ext w0 w') := by
  obtain ⟨hu, hi, hz, hs⟩ := sliceT_int
  cases hinf : P.info? T_int with
  | none => rw [hinf] at hi; cases hi
  | some i =>
    rw [hinf] at hi
    simp only [Option.map_some, Option.some.injEq, Prod.mk.injEq] at hi
    cases q with
    | none =>
      have hm : m = 0 := by
        rcases Nat.eq_zero_or_pos m with h0 | h0
        · exact h0
        · obtain ⟨b, off, hp, _⟩ := k.2.2.2 h0; cases hp
      subst hm
      have : ys = [] := List.eq_nil_of_length_eq_zero k.1
      subst this
      exact ⟨p, c, w, run_append_none w base T_s_int 0 T_int i 1 hu hinf _ n d _ h, by simpa using h, fun w0 h _ => h⟩
    | some a =>
      have hcells : ∀ j u, (ys.map (Value.int .i64))[j]? = some u -> w.cell? (a.add j) = some u := by
        intro j u hj
        have hl : j < m := by
          have := (List.getElem?_eq_some_iff.1 hj).1
          rw [List.length_map, k.1] at this; exact this
        obtain ⟨b, off, hp, hseg⟩ := k.2.2.2 (by omega)
        cases hp
        rw [addr_add]
        exact hseg j u hj
      have hmax : n + m <= maxLen := by simp only [maxLen]; omega
      obtain ⟨v', w', hrun, hown, hgr, _⟩ := run_append_own (P := P) w base T_s_int 0 T_int i (.int .i64 0) 1 8 hu hinf hi.1 hi.2.1 hi.2.2 hz hs (.slice p n c) n (zs.map (Value.int .i64)) h a m d (ys.map (Value.int .i64)) (by simp [k.1])
        hcells (by simp [Value.oneCell']) hmax (by omega) hb
      have hlt := World.ownsRow.lt h
      have hv : ∃ p' c', v' = .slice p' (n + m) c' := by
        rcases hown.2 with ⟨e1, e2⟩ | ⟨g, cap, cur, e1, _⟩
        · exact ⟨none, 0, by rw [e1, e2]⟩
        · exact ⟨_, _, e1⟩
      obtain ⟨p', c', rfl⟩ := hv
      have hob : (Value.slice p n c).ownBlock = p.map (·.block) := by cases p <;> rfl
      refine ⟨p', c', w', hrun, by rw [List.map_append]; exact hown, fun w0 hx hb0 => ?_⟩
      refine hx.chg (S := (p.map (·.block)).toList) ⟨hgr.os, hgr.tape, hgr.output, hgr.size, fun k hk hn => hgr.block k hk ?_⟩ ?_
      · rw [hob]; intro e; rw [<- e] at hn; simp at hn
      · intro x hx'
        have := (hlt x (by rw [hob]; cases p <;> simp_all)).1
        omega
theorem Sx.Own.push {w w1 : World} {base : Nat} {p : Option Addr} {n c r : Nat} {zs : List Int} {x : Int} (h : Own w base T_int 1 p n c (zs.map (Value.int .i64))) (hb : base <= w.heap.size) (hn : New w (.cells ⟨[.int .i64 x]⟩ T_int (0, 0)) r w1) (hlen : n <= 99999999) :
    ∃ p' c' w', Appends P [T_s_int, T_s_int] [.slice p n c, .slice (some ⟨r, 0, none⟩) 1 1] (.slice p' (n + 1) c') w1 w' /\ Own w' base T_int 1 p' (n + 1) c' ((zs ++ [x]).map (Value.int .i64)) /\
      (∀ w0, Ext w0 w -> w0.heap.size <= base -> Ext w0 w') := by
  obtain ⟨p', c', w', h1, h2, h3⟩ := Own.appendI (h.ext hn.ext) (by have := hn.ext.le; omega) (q := some ⟨r, 0, none⟩) (m := 1) (d := 1) (ys := [x]) ⟨rfl, Nat.le_refl _, by omega, fun _ => ⟨r, 0, rfl, hn.blk.seg⟩⟩ (by omega)
  exact ⟨p', c', w', h1, h2, fun w0 hx hb0 => h3 w0 (hx.trans hn.ext) hb0⟩
theorem Sx.Own.fresh {w w1 : World} {r : Nat} (hn : New w (.cells ⟨[]⟩ T_int (0, 0)) r w1) : Own w1 w.heap.size T_int 1 (some ⟨r, 0, none⟩) 0 0 (([] : List Int).map (Value.int .i64)) :=
  Own.of_blk (n := 0) hn.blk (by rw [hn.r_eq]; exact Nat.le_refl _) rfl (by simp [maxLen])
theorem Sx.Own.sub {w : World} {base : Nat} {p : Option Addr} {n c m : Nat} {zs : List Int} (h : Own w base T_int 1 p n c (zs.map (Value.int .i64))) (hm : m <= n) : Own w base T_int 1 p m c ((zs.take m).map (Value.int .i64)) := by
  have hl := h.1
  simp only [List.length_map, Nat.mul_one] at hl
  refine ⟨by simp; omega, ?_⟩
  rcases h.2 with ⟨h1, h2⟩ | ⟨g, cap, cur, h1, h2, h3, h4, h5, h6, h7⟩
  · simp only [Value.slice.injEq] at h1
    left
    exact ⟨by rw [h1.1, h1.2.2, show m = 0 by omega], by omega⟩
  · simp only [Value.slice.injEq] at h1
    right
    refine ⟨g, cap, cur, by rw [h1.1, h1.2.2], h2, h3, by omega, h5, h6, ?_⟩
    rw [List.map_take, <- h7, List.take_take]
    congr 1
    omega
theorem Sx.IntsR.sub {w : World} {p : Option Addr} {n c m : Nat} {zs : List Int} (h : IntsR w p n c zs) (hm : m <= n) : IntsR w p m c (zs.take m) :=
  ⟨by simp [h.1]; omega, by have := h.2.1; omega, h.2.2.1, fun h0 => let ⟨b, off, hp, hs⟩ := h.2.2.2 (by omega); ⟨b, off, hp, by rw [List.map_take]; exact hs.take m⟩⟩
theorem sub0 (p : Option Addr) (c : Nat) : Sx.sub p 0 c 1 = p := by
  unfold Sx.sub
  split
  · rfl
  · cases p <;> simp [Addr.add]
theorem spec_l02Trim_c {w : World} {p : Option Addr} {n c : Nat} {zs : List Int} (h : IntsR w p n c zs) : Ret P n_spec_l02Trim [.slice p n c] w fun v w' => v = .slice p (trimL zs).length c /\ w' = w /\ IntsR w p (trimL zs).length c (trimL zs) := by
  refine spec_l02Trim_ret ?_
  unfold spec_l02Trim
  have hlen := h.1; have hcap := h.2.1; have hcm := h.2.2.1
  have fin : ∀ k : Nat, k <= n -> trimL zs = zs.take k -> (trimL zs).length = k /\ IntsR w p (trimL zs).length c (trimL zs) := fun k hk e => by
    have : (trimL zs).length = k := by rw [e]; simp; omega
    exact ⟨this, by rw [this, e]; exact h.sub hk⟩
  refine ⟨fun i wr => ∃ k : Nat, i = k /\ k <= n /\ wr = w /\ trimL zs = trimL (zs.take k), fun i _ => i.toNat, ⟨n, rfl, Nat.le_refl _, rfl, by rw [List.take_of_length_le (by omega)]⟩, ?_⟩
  intro junk wr i ⟨k, hik, hk, hw, ht⟩
  subst hik; subst hw
  refine ifD (fun hpos => ?_) (fun h0 => ifF ?_)
  · obtain ⟨a, rfl, hl⟩ := ints_at h (i := (k : Int) - 1) (by omega) (by omega)
    have e : ((k : Int) - 1).toNat = k - 1 := by omega
    have ek : k = (k - 1) + 1 := by omega
    have htk := trimL_take (l := zs) (k := k - 1) (by omega)
    rw [<- ek] at htk
    refine exW ⟨by omega, by omega⟩ ⟨⟨by omega, by omega⟩, _, hl, ifD (fun hz => ?_) (fun hz => ?_)⟩
    · rw [e] at hz
      rw [if_pos hz] at htk
      exact exW ⟨by omega, by omega⟩ ⟨⟨k - 1, by omega, by omega, rfl, ht.trans htk⟩, by show ((k : Int) - 1).toNat < (k : Int).toNat; omega⟩
    · rw [e] at hz
      rw [if_neg hz] at htk
      obtain ⟨f1, f2⟩ := fin k hk (ht.trans htk)
      refine ⟨⟨by omega, by omega⟩, ?_, rfl, f2⟩
      rw [sub0, f1]; rfl
  · obtain ⟨f1, f2⟩ := fin 0 (by omega) (by rw [ht, show k = 0 by omega]; rfl)
    refine ⟨⟨by omega, by omega⟩, ?_, rfl, f2⟩
    rw [sub0, f1, show k = 0 by omega]; rfl
theorem impl_trim_c {w : World} {p : Option Addr} {n c : Nat} {zs : List Int} (h : IntsR w p n c zs) : Ret P n_impl_trim [.slice p n c] w fun v w' => v = .slice p (trimL zs).length c /\ w' = w /\ IntsR w p (trimL zs).length c (trimL zs) := by
  refine impl_trim_ret ?_
  unfold impl_trim
  have hlen := h.1; have hcap := h.2.1; have hcm := h.2.2.1
  have fin : ∀ k : Nat, k <= n -> trimL zs = zs.take k -> (trimL zs).length = k /\ IntsR w p (trimL zs).length c (trimL zs) := fun k hk e => by
    have : (trimL zs).length = k := by rw [e]; simp; omega
    exact ⟨this, by rw [this, e]; exact h.sub hk⟩
  refine ⟨fun q k d wr => q = p /\ d = c /\ k <= n /\ wr = w /\ trimL zs = trimL (zs.take k), fun _ k _ _ => k, ⟨rfl, rfl, Nat.le_refl _, rfl, by rw [List.take_of_length_le (by omega)]⟩, ?_⟩
  intro junk wr q k d ⟨hq, hd, hk, hw, ht⟩
  subst hq; subst hd; subst hw
  refine ifD (fun hpos => ?_) (fun h0 => ifF ?_)
  · obtain ⟨a, rfl, hl⟩ := ints_at h (i := (k : Int) - 1) (by omega) (by omega)
    have e : ((k : Int) - 1).toNat = k - 1 := by omega
    have ek : k = (k - 1) + 1 := by omega
    have htk := trimL_take (l := zs) (k := k - 1) (by omega)
    rw [<- ek] at htk
    refine exW ⟨by omega, by omega⟩ ⟨⟨by omega, by omega⟩, _, hl, ifD (fun hz => ?_) (fun hz => ?_)⟩
    · rw [e] at hz
      rw [if_pos hz] at htk
      refine exW ⟨by omega, by omega⟩ ⟨⟨by omega, by omega⟩, ⟨sub0 _ _, rfl, by omega, rfl, ?_⟩, by show ((k : Int) - 1).toNat - 0 < k; omega⟩
      rw [e]; exact ht.trans htk
    · rw [e] at hz
      rw [if_neg hz] at htk
      obtain ⟨f1, f2⟩ := fin k hk (ht.trans htk)
      exact ⟨by rw [f1], rfl, f2⟩
  · obtain ⟨f1, f2⟩ := fin 0 (by omega) (by rw [ht, show k = 0 by omega]; rfl)
    exact ⟨by rw [f1, show k = 0 by omega], rfl, f2⟩
def capL (l : List Int) : List Int := if l.length <= 50 then l else []
theorem spec_l02Cap_c {w : World} {p : Option Addr} {n c : Nat} {zs : List Int} (h : IntsR w p n c zs) : Ret P n_spec_l02Cap [.slice p n c] w fun v w' => ∃ p' n' c', v = .slice p' n' c' /\ w' = w /\ IntsR w p' n' c' (capL (trimL zs)) := by
  refine spec_l02Cap_ret ?_
  unfold spec_l02Cap
  refine Ret.at (spec_l02Trim_c h) ?_
  rintro v w1 ⟨hv, hw, hr⟩
  subst hv; subst hw
  refine ⟨_, _, _, rfl, ifD (fun hgt => ?_) (fun hle => ?_)⟩
  · exact ⟨none, 0, 0, rfl, rfl, by rw [capL, if_neg (by omega)]; exact IntsR.nil _ _ (by omega)⟩
  · exact ⟨_, _, _, rfl, rfl, by rw [capL, if_pos (by omega)]; exact hr⟩
theorem impl_natCopy_c {w : World} {p : Option Addr} {n c : Nat} {zs : List Int} (h : IntsR w p n c zs) (hn : n <= 100000000) : Ret P n_impl_natCopy [.slice p n c] w fun v w' => ∃ p' c', v = .slice p' n c' /\ Own w' w.heap.size T_int 1 p' n c' (zs.map (Value.int .i64)) /\ Ext w w' := by
  refine impl_natCopy_ret ?_
  unfold impl_natCopy
  intro r w1 hn1
  obtain ⟨p', c', w', h1, h2, h3⟩ := Own.appendI (Own.fresh hn1) hn1.ext.le (h.ext hn1.ext) (by omega)
  rw [Nat.zero_add] at h1 h2
  exact ⟨_, _, _, _, h1, _, _, rfl, by simpa using h2, h3 w hn1.ext (Nat.le_refl _)⟩
end Go.Proofs.YtbgokfhcgcoipaaGreat
namespace Go.Proofs.YtbgokfhcgcoipaaGreat.Sx
open Go
def mkI (n : Nat) (k : Int) : List Int := (List.range n).map fun i => k + (i : Nat)
def mdig (k : Nat) (acc : ByteArray) : ByteArray := if h : k = 0 then acc else mdig (k / 10) (strOfNums [((48 + k % 10 : Nat) : Int)] ++ acc)
termination_by k
decreasing_by omega
def mtext (k : Int) : ByteArray := if k <= 0 then ⟨#[109, 48]⟩ else (⟨#[109]⟩ : ByteArray) ++ mdig k.toNat ByteArray.empty
def D0.mark (k : Int) : D0 -> D0
  | .int _ => .int k
  | .bool _ => .bool (decide (k % 3 = 0))
  | .str _ => .str (mtext k)
  | .ints z => .ints (mkI z.length k)
def D0.cnt : D0 -> Int
  | .ints z => (z.length : Nat)
  | _ => 1
def marks : List D0 -> Int -> List D0
  | [], _ => []
  | d :: r, k => d.mark k :: marks r (k + d.cnt)
def cnts : List D0 -> Int
  | [] => 0
  | d :: r => d.cnt + cnts r
def tmarks : List D0 -> Int -> List D0
  | [], _ => []
  | .ints z :: r, k => .ints (mkI z.length k) :: tmarks r (k + (z.length : Nat))
  | .int n :: r, k => .int n :: tmarks r k
  | .bool n :: r, k => .bool n :: tmarks r k
  | .str n :: r, k => .str n :: tmarks r k
def tcnts : List D0 -> Int
  | [] => 0
  | .ints z :: r => (z.length : Nat) + tcnts r
  | _ :: r => tcnts r
def markL : List (List D0) -> Int -> List (List D0)
  | [], _ => []
  | x :: l, k => marks x k :: markL l (k + cnts x)
def cntL : List (List D0) -> Int
  | [] => 0
  | x :: l => cnts x + cntL l
theorem mkI_len (n : Nat) (k : Int) : (mkI n k).length = n := by simp [mkI]
theorem mkI_get (n : Nat) (k : Int) (i : Nat) (h : i < (mkI n k).length) : (mkI n k)[i] = k + (i : Nat) := by simp [mkI]
theorem mkI_succ (n : Nat) (k : Int) : mkI (n + 1) k = mkI n k ++ [k + (n : Nat)] := by simp [mkI, List.range_succ]
theorem cnt_nonneg (d : D0) : 0 <= d.cnt := by cases d <;> simp [D0.cnt]
theorem cnts_nonneg : ∀ (l : List D0), 0 <= cnts l
  | [] => Int.le_refl _
  | d :: r => by have := cnt_nonneg d; have := cnts_nonneg r; simp only [cnts]; omega
theorem cntL_nonneg : ∀ (l : List (List D0)), 0 <= cntL l
  | [] => Int.le_refl _
  | d :: r => by have := cnts_nonneg d; have := cntL_nonneg r; simp only [cntL]; omega
theorem markL_len : ∀ (l : List (List D0)) (k : Int), (markL l k).length = l.length
  | [], _ => rfl
  | x :: l, k => by simp [markL, markL_len l]
theorem markL_snoc : ∀ (l : List (List D0)) (x : List D0) (k : Int), markL (l ++ [x]) k = markL l k ++ [marks x (k + cntL l)]
  | [], x, k => by simp [markL, cntL]
  | y :: l, x, k => by
    simp only [List.cons_append, markL, markL_snoc l x, cntL]
    congr 4; omega
theorem markL_get : ∀ (l : List (List D0)) (k : Int) (i : Nat) (x : List D0), l[i]? = some x -> (markL l k)[i]? = some (marks x (k + cntL (l.take i)))
  | [], _, _, _, h => by simp at h
  | y :: l, k, 0, x, h => by simp at h; subst h; simp [markL, cntL]
  | y :: l, k, i + 1, x, h => by
    simp only [List.getElem?_cons_succ] at h
    simp only [markL, List.getElem?_cons_succ, markL_get l _ i x h, List.take_succ_cons, cntL]
    congr 2; omega
theorem cntL_snoc : ∀ (l : List (List D0)) (x : List D0), cntL (l ++ [x]) = cntL l + cnts x
  | [], x => by simp [cntL]
  | y :: l, x => by simp only [List.cons_append, cntL, cntL_snoc l x]; omega
theorem take_snoc {α : Type} {l : List α} {i : Nat} {x : α} (h : l[i]? = some x) : l.take (i + 1) = l.take i ++ [x] := by
  rw [List.take_add_one, h]; rfl
theorem cntL_take_le : ∀ (l : List (List D0)) (i : Nat), cntL (l.take i) <= cntL l
  | [], i => by simp
  | x :: l, 0 => by have := cntL_nonneg (x :: l); simpa [cntL] using this
  | x :: l, i + 1 => by
    have := cntL_take_le l i
    simp only [List.take_succ_cons, cntL] at this ⊢
    omega
theorem cntL_row {l : List (List D0)} {i : Nat} {x : List D0} (h : l[i]? = some x) : cntL (l.take (i + 1)) = cntL (l.take i) + cnts x /\ cntL (l.take i) + cnts x <= cntL l := by
  have h1 : cntL (l.take (i + 1)) = cntL (l.take i) + cnts x := by rw [take_snoc h, cntL_snoc]
  have h2 := cntL_take_le l (i + 1)
  exact ⟨h1, by omega⟩
theorem markL_set {l : List (List D0)} {k : Int} {i : Nat} {x : List D0} (h : l[i]? = some x) :
    (markL (l.take i) k ++ l.drop i).set i (marks x (k + cntL (l.take i))) = markL (l.take (i + 1)) k ++ l.drop (i + 1) := by
  have hi : i < l.length := (List.getElem?_eq_some_iff.1 h).1
  have hl : (markL (l.take i) k).length = i := by rw [markL_len]; simp; omega
  rw [List.set_append_right _ _ (by omega), hl, Nat.sub_self, take_snoc h, markL_snoc]
  have hd : l.drop i = x :: l.drop (i + 1) := by
    obtain ⟨h1, h2⟩ := List.getElem?_eq_some_iff.1 h
    rw [<- h2]; exact List.drop_eq_getElem_cons h1
  rw [hd]; simp
theorem markL_at {l : List (List D0)} {k : Int} {i : Nat} {x : List D0} (h : l[i]? = some x) : (markL (l.take i) k ++ l.drop i)[i]? = some x := by
  have hi : i < l.length := (List.getElem?_eq_some_iff.1 h).1
  have hl : (markL (l.take i) k).length = i := by rw [markL_len]; simp; omega
  rw [List.getElem?_append_right (by omega), hl, Nat.sub_self, List.getElem?_drop, Nat.add_zero, h]
theorem cnts_le : ∀ (l : List D0), cnts l <= ((bulks l + l.length : Nat) : Int)
  | [] => by simp [cnts]
  | d :: r => by
    have h2 := cnts_le r
    have h1 : d.cnt <= (d.bulk : Nat) + 1 := by cases d <;> simp [D0.cnt, D0.bulk] <;> omega
    simp only [cnts, bulks, List.map_cons, List.sum_cons, List.length_cons] at h2 ⊢
    omega
theorem cntL_le {m : Nat} : ∀ (l : List (List D0)), (∀ x ∈ l, x.length <= m) -> cntL l <= (((l.map bulks).sum + l.length * m : Nat) : Int)
  | [], _ => by simp [cntL]
  | x :: l, h => by
    have h1 := cnts_le x; have h2 := cntL_le l fun y hy => h y (.tail _ hy); have h3 := h x (.head _)
    simp only [cntL, List.map_cons, List.sum_cons, List.length_cons, Nat.succ_mul] at h2 ⊢
    omega
theorem mem_opt {o : Option Nat} {q : Nat} (h : o = some q) : q ∈ o.toList := by subst h; simp
theorem opt_mem {o : Option Nat} {q : Nat} (h : q ∈ o.toList) : o = some q := by cases o <;> simp_all
theorem code_ints {ds : List D0} {cs : List C0} (h : ds.map D0.code = .ints :: cs) : ∃ z es, ds = .ints z :: es /\ es.map D0.code = cs := by
  match ds, h with
  | .ints z :: es, h => exact ⟨z, es, rfl, (List.cons.inj h).2⟩
theorem code_bool {ds : List D0} {cs : List C0} (h : ds.map D0.code = .bool :: cs) : ∃ z es, ds = .bool z :: es /\ es.map D0.code = cs := by
  match ds, h with
  | .bool z :: es, h => exact ⟨z, es, rfl, (List.cons.inj h).2⟩
theorem code_nil {ds : List D0} (h : ds.map D0.code = []) : ds = [] := by simpa using h
theorem Owns.consInts {w : World} {B : Nat} {vs : List Value} {ds : List D0} {f : List Nat} {cs : List C0} (h : Owns w B vs ds f) (hc : ds.map D0.code = .ints :: cs) :
    ∃ p n c z us es f2, vs = .slice p n c :: us /\ ds = .ints z :: es /\ f = (p.map (·.block)).toList ++ f2 /\ Own w B T_int 1 p n c (z.map (Value.int .i64)) /\ Owns w B us es f2 /\ es.map D0.code = cs := by
  match vs, ds, h, hc with
  | v :: us, .ints z :: es, h, hc =>
    obtain ⟨f1, f2, hf, ⟨p, n, c, hv, ho, hf1⟩, h2⟩ := h
    exact ⟨p, n, c, z, us, es, f2, by rw [hv], rfl, by rw [hf, hf1], ho, h2, (List.cons.inj hc).2⟩
  | [], .ints z :: es, h, _ => exact h.elim
theorem Owns.consBool {w : World} {B : Nat} {vs : List Value} {ds : List D0} {f : List Nat} {cs : List C0} (h : Owns w B vs ds f) (hc : ds.map D0.code = .bool :: cs) :
    ∃ s us es, vs = .bool s :: us /\ ds = .bool s :: es /\ Owns w B us es f /\ es.map D0.code = cs := by
  match vs, ds, h, hc with
  | v :: us, .bool z :: es, h, hc =>
    obtain ⟨f1, f2, hf, ⟨hv, hf1⟩, h2⟩ := h
    exact ⟨z, us, es, by rw [hv], rfl, by rw [hf, hf1]; exact h2, (List.cons.inj hc).2⟩
  | [], .bool z :: es, h, _ => exact h.elim
theorem Owns.done {w : World} {B : Nat} {vs : List Value} {ds : List D0} {f : List Nat} (h : Owns w B vs ds f) (hc : ds.map D0.code = []) : vs = [] /\ ds = [] /\ f = [] := by
  match vs, ds, h, hc with
  | [], [], h, _ => exact ⟨rfl, rfl, h⟩
  | v :: us, [], h, _ => exact h.elim
theorem Blk.segMid {w : World} {b o : Nat} {e : TypeId} {xs cur zs : List Value} (h : Blk w b e (xs ++ cur ++ zs)) (hA : xs.length = o) : Seg w b o cur := by
  subst hA
  have h1 := h.seg
  have h2 := (h1.drop xs.length).take cur.length
  rw [List.append_assoc, List.drop_left, List.take_left] at h2
  simpa using h2
theorem Blk.storeMid {P : Program} {w : World} {t : TypeId} {b o : Nat} {e : TypeId} {xs cur zs : List Value} {v : Value} (h : Blk w b e (xs ++ cur ++ zs)) (hA : xs.length = o) (j : Nat) (hj : j < cur.length) (ht : cellT P t = true) (hv : v.oneCell' = true) {a : Addr} (ha : a = ⟨b, o + j, none⟩) :
    ∃ w', Stores P t a v w w' /\ Blk w' b e (xs ++ cur.set j v ++ zs) /\ Chg [b] w w' /\ w'.heap.size = w.heap.size := by
  subst ha; subst hA
  obtain ⟨w', h1, h2, h3, h4⟩ := h.store (P := P) (k := xs.length + j) (v := v) ht (by simp; omega) hv
  refine ⟨w', by rw [addr_add, Nat.zero_add] at h1; exact h1, ?_, h3, h4⟩
  rw [List.append_assoc, List.set_append_right _ _ (by omega), Nat.add_sub_cancel_left, List.set_append_left _ _ hj, <- List.append_assoc] at h2
  exact h2
theorem Own.blk {w : World} {B : Nat} {e : TypeId} {size : Nat} {p : Option Addr} {n c : Nat} {xs : List Value} (h : Own w B e size p n c xs) (hn : 0 < n) :
    ∃ b ys, p = some ⟨b, 0, none⟩ /\ B <= b /\ Blk w b e ys /\ ys.length = c * size /\ n <= c /\ c <= maxLen /\ ys.take (n * size) = xs := by
  rcases h.2 with ⟨h1, h2⟩ | ⟨g, cap, cur, h1, hb, hg, h3, h4, h5, h6⟩
  · omega
  · simp only [Value.slice.injEq] at h1
    obtain ⟨e1, _, e3⟩ := h1
    have e3 : c = cap := by omega
    subst e3
    exact ⟨g, cur.toList, e1, hb, hg, by simpa using h5, h3, h4, h6⟩
theorem Own.of_blk' {w : World} {B : Nat} {e : TypeId} {size : Nat} {b n c : Nat} {ys : List Value} (h : Blk w b e ys) (hb : B <= b) (hl : ys.length = c * size) (hn : n <= c) (hc : c <= maxLen) : Own w B e size (some ⟨b, 0, none⟩) n c (ys.take (n * size)) :=
  ⟨by
    have : n * size <= c * size := Nat.mul_le_mul_right _ hn
    simp; omega, .inr ⟨b, c, ⟨ys⟩, rfl, hb, h, hn, hc, by simpa using hl, rfl⟩⟩
theorem Own.set {P : Program} {w : World} {B : Nat} {e : TypeId} {size : Nat} {p : Option Addr} {n c : Nat} {xs : List Value} (h : Own w B e size p n c xs) {t : TypeId} {i : Nat} {v : Value} (hi : i < xs.length) (ht : cellT P t = true) (hv : v.oneCell' = true) :
    ∃ b w', p = some ⟨b, 0, none⟩ /\ Stores P t ((⟨b, 0, none⟩ : Addr).add i) v w w' /\ Own w' B e size p n c (xs.set i v) /\ Chg (p.map (·.block)).toList w w' /\ w'.heap.size = w.heap.size := by
  have hl := h.len
  have hn : 0 < n := by
    rcases Nat.eq_zero_or_pos n with h0 | h0
    · subst h0; simp at hl; rw [hl] at hi; simp at hi
    · exact h0
  obtain ⟨b, ys, rfl, hb, hblk, hyl, hnc, hc, hx⟩ := h.blk hn
  have hle : n * size <= c * size := Nat.mul_le_mul_right _ hnc
  obtain ⟨w', st, hb', ch, sz⟩ := hblk.store (P := P) (t := t) (k := i) (v := v) ht (by omega) hv
  refine ⟨b, w', rfl, st, ?_, by simpa using ch, sz⟩
  have := Own.of_blk' (n := n) hb' hb (by simpa using hyl) hnc hc
  rw [List.take_set, hx] at this
  exact this
theorem AllO.focus {w : World} {B k : Nat} : ∀ {css : List (List Value)} {l : List (List D0)} {fs : List (List Nat)}, AllO w B k css l fs -> ∀ (i : Nat) (x : List D0), l[i]? = some x ->
    ∃ cs fi, css[i]? = some cs /\ fs[i]? = some fi /\ cs.length = k /\ Owns w B cs x fi
  | [], [], [], _, i, x, hx => by simp at hx
  | cs :: css, y :: l, f :: fs, h, 0, x, hx => by
    simp only [List.getElem?_cons_zero, Option.some.injEq] at hx
    subst hx
    exact ⟨cs, f, rfl, rfl, h.1, h.2.1⟩
  | cs :: css, y :: l, f :: fs, h, i + 1, x, hx => by
    simp only [List.getElem?_cons_succ] at hx ⊢
    exact AllO.focus h.2.2 i x hx
  | [], [], _ :: _, h, _, _, _ => h.elim
  | [], _ :: _, _, h, _, _, _ => h.elim
  | _ :: _, [], _, h, _, _, _ => h.elim
  | _ :: _, _ :: _, [], h, _, _, _ => h.elim
theorem AllO.set {S : List Nat} {w w' : World} {B k : Nat} {cs' : List Value} {x' : List D0} (hc : Chg S w w') (hk : cs'.length = k) : ∀ {css : List (List Value)} {l : List (List D0)} {fs : List (List Nat)}, AllO w B k css l fs -> ∀ (i : Nat) (fi : List Nat), fs[i]? = some fi ->
    Owns w' B cs' x' fi -> (∀ (j : Nat) (f : List Nat), j ≠ i -> fs[j]? = some f -> ∀ y ∈ f, y ∉ S) -> AllO w' B k (css.set i cs') (l.set i x') fs
  | [], [], [], _, i, fi, hx, _, _ => by simp at hx
  | cs :: css, y :: l, f :: fs, h, 0, fi, hx, ho, hS => by
    simp only [List.getElem?_cons_zero, Option.some.injEq] at hx
    subst hx
    refine ⟨hk, ho, h.2.2.chg hc fun y hy => ?_⟩
    obtain ⟨f', hf, hyf⟩ := List.mem_flatten.1 hy
    obtain ⟨j, hj, e⟩ := List.getElem_of_mem hf
    exact hS (j + 1) f' (by omega) (by simp [List.getElem?_eq_getElem hj, e]) y hyf
  | cs :: css, y :: l, f :: fs, h, i + 1, fi, hx, ho, hS => by
    simp only [List.getElem?_cons_succ] at hx
    refine ⟨h.1, h.2.1.chg hc fun y hy => hS 0 f (by omega) rfl y hy, AllO.set hc hk h.2.2 i fi hx ho fun j f' hj hf => hS (j + 1) f' (by omega) (by simpa using hf)⟩
  | [], [], _ :: _, h, _, _, _, _, _ => h.elim
  | [], _ :: _, _, h, _, _, _, _, _ => h.elim
  | _ :: _, [], _, h, _, _, _, _, _ => h.elim
  | _ :: _, _ :: _, [], h, _, _, _, _, _ => h.elim
theorem flat_len {α : Type} {k : Nat} : ∀ {css : List (List α)}, (∀ c ∈ css, c.length = k) -> css.flatten.length = css.length * k
  | [], _ => by simp
  | c :: css, h => by
    rw [List.flatten_cons, List.length_append, flat_len fun c hc => h c (.tail _ hc), h c (.head _), List.length_cons, Nat.succ_mul, Nat.add_comm]
theorem cons_at {α : Type} {l : List α} {i : Nat} {x : α} (h : l[i]? = some x) : l = l.take i ++ x :: l.drop (i + 1) := by
  obtain ⟨h1, h2⟩ := List.getElem?_eq_some_iff.1 h
  conv => lhs; rw [<- List.take_append_drop i l]
  rw [List.drop_eq_getElem_cons h1, h2]
theorem set_split {α : Type} {l : List α} {i : Nat} {x y : α} (h : l[i]? = some x) : l.set i y = l.take i ++ y :: l.drop (i + 1) := by
  obtain ⟨h1, h2⟩ := List.getElem?_eq_some_iff.1 h
  rw [List.set_eq_take_append_cons_drop, if_pos h1]
theorem AllO.lens {w : World} {B k : Nat} : ∀ {css : List (List Value)} {l : List (List D0)} {fs : List (List Nat)}, AllO w B k css l fs -> (∀ c ∈ css, c.length = k) /\ css.length = l.length /\ fs.length = l.length
  | [], [], [], _ => ⟨fun _ h => by simp at h, rfl, rfl⟩
  | cs :: css, y :: l, f :: fs, h => by
    obtain ⟨h1, h2, h3⟩ := AllO.lens h.2.2
    refine ⟨fun c hc => ?_, by simp [h2], by simp [h3]⟩
    rcases List.mem_cons.1 hc with h4 | h4
    · rw [h4]; exact h.1
    · exact h1 c h4
  | [], [], _ :: _, h => h.elim
  | [], _ :: _, _, h => h.elim
  | _ :: _, [], _, h => h.elim
  | _ :: _, _ :: _, [], h => h.elim
theorem OwnRows.focus {w : World} {B : Nat} {e : TypeId} {k : Nat} {p : Option Addr} {n c : Nat} {l : List (List D0)} {f : List Nat} (h : OwnRows w B e k p n c l f) {i : Nat} {x : List D0} (hx : l[i]? = some x) :
    ∃ b xs cs zs fi, p = some ⟨b, 0, none⟩ /\ B <= b /\ xs.length = i * k /\ cs.length = k /\ Blk w b e (xs ++ cs ++ zs) /\ Owns w B cs x fi /\ fi.Nodup /\ b ∉ fi /\ b ∈ f /\ (∀ y ∈ fi, y ∈ f) /\
      ∀ w' cs' x', Chg (b :: fi) w w' -> cs'.length = k -> Blk w' b e (xs ++ cs' ++ zs) -> Owns w' B cs' x' fi -> OwnRows w' B e k p n c (l.set i x') f := by
  obtain ⟨hl, css, fs, ha, ho, hf, hnd⟩ := h
  have hi : i < l.length := (List.getElem?_eq_some_iff.1 hx).1
  obtain ⟨cs, fi, hcs, hfi, hk, how⟩ := ha.focus i x hx
  obtain ⟨hlen, hcl, hfl⟩ := ha.lens
  obtain ⟨b, ys, rfl, hb, hblk, hyl, hnc, hc, hy⟩ := ho.blk (by omega)
  have hsp := congrArg List.flatten (cons_at hcs)
  rw [List.flatten_append, List.flatten_cons] at hsp
  have hA : (css.take i).flatten.length = i * k := by
    rw [flat_len fun c hc => hlen c (List.mem_of_mem_take hc), List.length_take, Nat.min_eq_left (by omega)]
  have hys : ys = (css.take i).flatten ++ cs ++ ((css.drop (i + 1)).flatten ++ ys.drop (n * k)) := by
    conv => lhs; rw [<- List.take_append_drop (n * k) ys, hy, hsp]
    simp
  have hnd' := hnd
  rw [hf] at hnd'
  simp only [Option.map_some, Option.toList_some, List.singleton_append, List.nodup_cons] at hnd'
  obtain ⟨hbn, hfn⟩ := hnd'
  obtain ⟨hf1, hf2⟩ := List.pairwise_flatten.1 hfn
  have hmem : ∀ y ∈ fi, y ∈ fs.flatten := fun y hy => List.mem_flatten.2 ⟨fi, List.mem_of_getElem? hfi, hy⟩
  rw [hys] at hblk
  refine ⟨b, _, cs, _, fi, rfl, hb, hA, hk, hblk, how, hf1 _ (List.mem_of_getElem? hfi), fun hm => hbn (hmem _ hm), by rw [hf]; simp, fun y hy => by rw [hf]; simp only [List.mem_append]; exact .inr (hmem y hy), ?_⟩
  intro w' cs' x' hch hk' hblk' how'
  refine ⟨by simpa using hl, css.set i cs', fs, ha.set hch hk' i fi hfi how' ?_, ?_, hf, hnd⟩
  · intro j g hj hg y hy hm
    have hyf : y ∈ fs.flatten := List.mem_flatten.2 ⟨g, List.mem_of_getElem? hg, hy⟩
    rcases List.mem_cons.1 hm with rfl | hm
    · exact hbn hyf
    · obtain ⟨j1, e1⟩ := List.getElem?_eq_some_iff.1 hg
      obtain ⟨i1, e2⟩ := List.getElem?_eq_some_iff.1 hfi
      rw [List.pairwise_iff_getElem] at hf2
      rcases Nat.lt_or_ge j i with hlt | hge
      · have := hf2 j i j1 i1 hlt
        rw [e1, e2] at this
        exact this y hy y hm rfl
      · have := hf2 i j i1 j1 (by omega)
        rw [e1, e2] at this
        exact this y hm y hy rfl
  · have hlen2 : ((css.take i).flatten ++ cs' ++ ((css.drop (i + 1)).flatten ++ ys.drop (n * k))).length = c * k := by
      have := congrArg List.length hys
      simp only [List.length_append] at this ⊢
      omega
    have := Own.of_blk' (n := n) hblk' hb hlen2 hnc hc
    have e : ((css.take i).flatten ++ cs' ++ ((css.drop (i + 1)).flatten ++ ys.drop (n * k))).take (n * k) = (css.set i cs').flatten := by
      rw [set_split hcs, List.flatten_append, List.flatten_cons, <- List.append_assoc, <- List.append_assoc, List.take_left']
      have h1 := congrArg List.length hsp
      have h2 := flat_len hlen
      simp only [List.length_append] at h1 ⊢
      rw [hcl, hl] at h2
      omega
    rwa [e] at this
end Go.Proofs.YtbgokfhcgcoipaaGreat.Sx
namespace Go.Proofs.YtbgokfhcgcoipaaGreat.Sx
open Go Go.RowKit
theorem Own.push1 {P : Program} {w : World} {B : Nat} {t e : TypeId} {z : Value} {size bytes : Nat} {p : Option Addr} {n c r : Nat} {xs news : List Value} (h : Own w B e size p n c xs)
    (hT : sliceT P t e z size bytes) (hb : B <= w.heap.size) (hr : Blk w r e news) (hl : news.length = size) (h1 : ∀ u ∈ news, u.oneCell' = true)
    (hbytes : (n + 1) * bytes <= 140737488355328) (hby : 1 <= bytes) :
    ∃ p' c' w', Appends P [t, t] [.slice p n c, .slice (some ⟨r, 0, none⟩) 1 1] (.slice p' (n + 1) c') w w' /\ Own w' B e size p' (n + 1) c' (xs ++ news) /\ Chg (p.map (·.block)).toList w w' /\
      (p'.map (·.block) = p.map (·.block) ∨ ∀ q, p'.map (·.block) = some q -> w.heap.size <= q) := by
  obtain ⟨hu, hi, hz, hs⟩ := hT
  cases hinf : P.info? e with
  | none => rw [hinf] at hi; cases hi
  | some i =>
    rw [hinf] at hi
    simp only [Option.map_some, Option.some.injEq, Prod.mk.injEq] at hi
    have hnm : n + 1 <= maxLen := by
      have : n + 1 <= (n + 1) * bytes := Nat.le_mul_of_pos_right _ hby
      simp only [maxLen]; omega
    have hcells : ∀ j u, news[j]? = some u -> w.cell? ((⟨r, 0, none⟩ : Addr).add j) = some u := fun j u hj => by rw [addr_add, Nat.zero_add, hr.cell, hj]
    obtain ⟨v', w', hrun, hown, hgr, _⟩ := run_append_own (P := P) w B t 0 e i z size bytes hu hinf hi.1 hi.2.1 hi.2.2 hz hs (.slice p n c) n xs h ⟨r, 0, none⟩ 1 1 news (by rw [hl, Nat.one_mul]) hcells h1 hnm hbytes hb
    have hv : ∃ p' c', v' = .slice p' (n + 1) c' := by
      rcases hown.2 with ⟨e1, e2⟩ | ⟨g, cap, cur, e1, _⟩
      · omega
      · exact ⟨_, _, e1⟩
    obtain ⟨p', c', rfl⟩ := hv
    have hob : (Value.slice p n c).ownBlock = p.map (·.block) := by cases p <;> rfl
    refine ⟨p', c', w', hrun, hown, ⟨hgr.os, hgr.tape, hgr.output, hgr.size, fun k hk hn => hgr.block k hk ?_⟩, ?_⟩
    · rw [hob]; intro e; rw [<- e] at hn; simp at hn
    have hrun : (Builtin.append_ #[t, t] 0 #[.slice p n c, .slice (some ⟨r, 0, none⟩) 1 1]).run P w = .ok (.slice p' (n + 1) c') w' := hrun
    rcases h.2 with ⟨e1, e2⟩ | ⟨g, cap, cur, e1, hB, hg, h3, h4, h5, h6⟩
    · simp only [Value.slice.injEq] at e1
      obtain ⟨rfl, rfl, rfl⟩ := e1
      have h0 := run_append_nil (P := P) w t 0 e i z hu hinf hi.1 ⟨r, 0, none⟩ 1 1 news (by rw [hl, hi.2.1, Nat.one_mul]) hcells (by omega) (by omega) (by rw [hi.2.2]; omega)
      rw [h0] at hrun
      injection hrun with hv _
      simp only [Value.slice.injEq] at hv
      exact .inr fun q hq => by rw [<- hv.1] at hq; simp at hq; omega
    · simp only [Value.slice.injEq] at e1
      obtain ⟨rfl, _, rfl⟩ := e1
      by_cases hroom : n + 1 <= c
      · have hsz : n * i.size + news.length <= cur.size := by
          have : (n + 1) * size <= c * size := Nat.mul_le_mul_right _ hroom
          rw [hi.2.1, hl, h5, Nat.succ_mul] at *
          omega
        have h0 := run_append_room (P := P) w t 0 e i hu hinf g n c cur hg ⟨r, 0, none⟩ 1 1 news (by rw [hl, hi.2.1, Nat.one_mul]) hcells h1 hroom hsz
        rw [h0] at hrun
        injection hrun with hv _
        simp only [Value.slice.injEq] at hv
        exact .inl (by rw [<- hv.1])
      · have holds : ∀ j v, xs[j]? = some v -> w.cell? ((⟨g, 0, none⟩ : Addr).add j) = some v := World.ownsRow.cells h rfl
        have hfit : Builtin.nextslicecap (n + 1) c * i.bytes <= 281474976710656 := by
          rw [hi.2.2]; exact growslice_fits (by omega) hbytes
        have h0 := run_append_grow (P := P) w t 0 e i z hu hinf hi.1 ⟨g, 0, none⟩ n c xs (by rw [h.len, hi.2.1]) holds ⟨r, 0, none⟩ 1 1 news (by rw [hl, hi.2.1, Nat.one_mul]) hcells (by omega) (by simp only [maxLen] at hnm; omega) hfit
        rw [h0] at hrun
        injection hrun with hv _
        simp only [Value.slice.injEq] at hv
        exact .inr fun q hq => by rw [<- hv.1] at hq; simp at hq; omega
theorem OwnRows.fresh {w w' : World} {B : Nat} {e : TypeId} {k r : Nat} (hn : New w (.cells ⟨[]⟩ e (0, 0)) r w') (hb : B <= w.heap.size) : OwnRows w' B e k (some ⟨r, 0, none⟩) 0 0 [] [r] :=
  ⟨rfl, [], [], trivial, Own.of_blk0 hn.blk (by have := hn.r_eq; omega) (by simp) (by decide), by simp, by simp⟩
theorem OwnRows.push {P : Program} {w : World} {B : Nat} {t e : TypeId} {z : Value} {k bytes : Nat} {p : Option Addr} {n c r : Nat} {l : List (List D0)} {f fx : List Nat} {cs : List Value} {x : List D0} (h : OwnRows w B e k p n c l f)
    (hT : sliceT P t e z k bytes) (hb : B <= w.heap.size) (hr : Blk w r e cs) (hl : cs.length = k) (ho : Owns w B cs x fx) (hfx : fx.Nodup) (hdis : ∀ q ∈ fx, q ∉ f)
    (hbytes : (n + 1) * bytes <= 140737488355328) (hby : 1 <= bytes) :
    ∃ p' c' w' f', Appends P [t, t] [.slice p n c, .slice (some ⟨r, 0, none⟩) 1 1] (.slice p' (n + 1) c') w w' /\ OwnRows w' B e k p' (n + 1) c' (l ++ [x]) f' /\ Chg (p.map (·.block)).toList w w' /\
      (∀ w0, Ext w0 w -> w0.heap.size <= B -> Ext w0 w') := by
  obtain ⟨hln, css, fs, ha, hown, rfl, hnd⟩ := h
  obtain ⟨p', c', w', hrun, hown', hch, hp⟩ := hown.push1 hT hb hr hl ho.reps.cells1 hbytes hby
  have hpl : ∀ q ∈ (p.map (·.block)).toList, B <= q := fun q hq => (World.ownsRow.lt hown q (by cases p <;> simp_all [Value.ownBlock])).1
  have hnd1 := (List.nodup_append.1 hnd)
  have hpin : ∀ q ∈ fs.flatten, q ∉ (p.map (·.block)).toList := fun q hq hm => hnd1.2.2 q hm q hq rfl
  have hpx : ∀ q ∈ fx, q ∉ (p.map (·.block)).toList := fun q hq hm => hdis q hq (List.mem_append_left _ hm)
  have hlt : ∀ q ∈ fs.flatten ++ fx, q < w.heap.size := fun q hq => by
    rcases List.mem_append.1 hq with hq | hq
    · exact (ha.lt q hq).2
    · exact (ho.lt q hq).2
  refine ⟨p', c', w', (p'.map (·.block)).toList ++ (fs ++ [fx]).flatten, hrun, ⟨by simp [hln], css ++ [cs], fs ++ [fx], (ha.chg hch hpin).snoc hl (ho.chg hch hpx), by simpa using hown', rfl, ?_⟩, hch, fun w0 hx hb0 => hx.chg hch fun q hq => Nat.le_trans hb0 (hpl q hq)⟩
  have e : (fs ++ [fx]).flatten = fs.flatten ++ fx := by simp
  rw [e, List.nodup_append]
  refine ⟨by cases p' <;> simp, ?_, ?_⟩
  · rw [List.nodup_append]
    exact ⟨hnd1.2.1, hfx, fun a ha b hb e => hdis b hb (by rw [<- e]; exact List.mem_append_right _ ha)⟩
  · intro a ha b hb hab
    subst hab
    have hpa := opt_mem ha
    rcases hp with hp | hp
    · rw [hp] at hpa
      have ham : a ∈ (p.map (·.block)).toList := mem_opt hpa
      rcases List.mem_append.1 hb with hb | hb
      · exact hpin a hb ham
      · exact hpx a hb ham
    · have := hp a hpa
      have := hlt a hb
      omega
end Go.Proofs.YtbgokfhcgcoipaaGreat.Sx
namespace Go.Proofs.YtbgokfhcgcoipaaGreat.Sx
open Go Go.RowKit
theorem copies_row {P : Program} {w : World} {dT sT e t : TypeId} {size g o dLen dCap sLen sCap : Nat} {a : Addr} {cur cs : List Value} (hu : P.underlying dT = some (.slice e)) (hs : (P.info? e).map (·.size) = some size)
    (hg : Blk w g t cur) (hn : cs.length = Nat.min sLen dLen * size) (hsrc : ∀ j v, cs[j]? = some v -> w.cell? (a.add j) = some v) (hfit : o + cs.length <= cur.length) (h1 : ∀ v ∈ cs, v.oneCell' = true) :
    ∃ w', Copies P [dT, sT] [.slice (some ⟨g, o, none⟩) dLen dCap, .slice (some a) sLen sCap] (.int .i64 ((Nat.min sLen dLen : Nat) : Int)) w w' /\ Blk w' g t (cur.take o ++ cs ++ cur.drop (o + cs.length)) /\ Chg [g] w w' /\ w'.heap.size = w.heap.size := by
  have hl := run_loadCells_list (P := P) w a cs hsrc
  have hst := run_storeCells_at P g o t cs 0 ⟨cur⟩ w hg (by simpa using hfit) h1
  refine ⟨_, ?_, setRow_heap w g ⟨cur⟩ _ t _ hg, setRow_chg _ _ _, by simp⟩
  unfold Copies
  cases hq : P.info? e with
  | none => simp [hq] at hs
  | some i =>
    have hi : i.size = size := by simpa [hq] using hs
    rw [hn] at hl
    simp only [Builtin.copy_, run_underlying hu, Builtin.lenOf, Builtin.firstCells, sizeOf, typeInfo, hq, hi, hl, hst, Sem.run_bind, Sem.run_pure, Result.andThen_ok, goInt]
    simp [typeInfo, hq, hi, hl, hst, run_underlying hu]
theorem Own.take {w : World} {B : Nat} {e : TypeId} {size : Nat} {p : Option Addr} {n c : Nat} {xs : List Value} (h : Own w B e size p n c xs) {i : Nat} (hi : i <= n) : Own w B e size p i c (xs.take (i * size)) := by
  have hl := h.len
  have him : i * size <= n * size := Nat.mul_le_mul_right _ hi
  refine ⟨by simp; omega, ?_⟩
  rcases h.2 with ⟨h1, h2⟩ | ⟨g, cap, cur, h1, hb, hg, h3, h4, h5, h6⟩
  · simp only [Value.slice.injEq] at h1
    obtain ⟨rfl, rfl, rfl⟩ := h1
    have : i = 0 := by omega
    subst this
    exact .inl ⟨rfl, rfl⟩
  · simp only [Value.slice.injEq] at h1
    obtain ⟨rfl, _, rfl⟩ := h1
    refine .inr ⟨g, c, cur, rfl, hb, hg, by omega, h4, h5, ?_⟩
    rw [<- h6, List.take_take, Nat.min_eq_left him]
theorem Own.pushN {P : Program} {w : World} {B : Nat} {t e : TypeId} {z : Value} {size bytes : Nat} {p : Option Addr} {n c m mc : Nat} {a : Addr} {xs news : List Value} (h : Own w B e size p n c xs)
    (hT : sliceT P t e z size bytes) (hb : B <= w.heap.size) (hcells : ∀ j u, news[j]? = some u -> w.cell? (a.add j) = some u) (hl : news.length = m * size) (h1 : ∀ u ∈ news, u.oneCell' = true)
    (hbytes : (n + m) * bytes <= 140737488355328) (hby : 1 <= bytes) (hm0 : 0 < m) :
    ∃ p' c' w', Appends P [t, t] [.slice p n c, .slice (some a) m mc] (.slice p' (n + m) c') w w' /\ Own w' B e size p' (n + m) c' (xs ++ news) /\ Chg (p.map (·.block)).toList w w' /\
      ((p'.map (·.block) = p.map (·.block) /\ n + m <= c) ∨ ((∀ q, p'.map (·.block) = some q -> w.heap.size <= q) /\ (p = none ∨ c < n + m))) := by
  obtain ⟨hu, hi, hz, hs⟩ := hT
  cases hinf : P.info? e with
  | none => rw [hinf] at hi; cases hi
  | some i =>
    rw [hinf] at hi
    simp only [Option.map_some, Option.some.injEq, Prod.mk.injEq] at hi
    have hnm : n + m <= maxLen := by
      have : n + m <= (n + m) * bytes := Nat.le_mul_of_pos_right _ hby
      simp only [maxLen]; omega
    obtain ⟨v', w', hrun, hown, hgr, _⟩ := run_append_own (P := P) w B t 0 e i z size bytes hu hinf hi.1 hi.2.1 hi.2.2 hz hs (.slice p n c) n xs h a m mc news hl hcells h1 hnm hbytes hb
    have hv : ∃ p' c', v' = .slice p' (n + m) c' := by
      rcases hown.2 with ⟨e1, e2⟩ | ⟨g, cap, cur, e1, _⟩
      · omega
      · exact ⟨_, _, e1⟩
    obtain ⟨p', c', rfl⟩ := hv
    have hob : (Value.slice p n c).ownBlock = p.map (·.block) := by cases p <;> rfl
    refine ⟨p', c', w', hrun, hown, ⟨hgr.os, hgr.tape, hgr.output, hgr.size, fun k hk hn => hgr.block k hk ?_⟩, ?_⟩
    · rw [hob]; intro e; rw [<- e] at hn; simp at hn
    have hrun : (Builtin.append_ #[t, t] 0 #[.slice p n c, .slice (some a) m mc]).run P w = .ok (.slice p' (n + m) c') w' := hrun
    rcases h.2 with ⟨e1, e2⟩ | ⟨g, cap, cur, e1, hB, hg, h3, h4, h5, h6⟩
    · simp only [Value.slice.injEq] at e1
      obtain ⟨rfl, rfl, rfl⟩ := e1
      have h0 := run_append_nil (P := P) w t 0 e i z hu hinf hi.1 a m mc news (by rw [hl, hi.2.1]) hcells (by omega) (by simp only [maxLen] at hnm; omega) (by rw [hi.2.2]; rw [Nat.zero_add] at hbytes; omega)
      rw [h0] at hrun
      injection hrun with hv _
      simp only [Value.slice.injEq] at hv
      exact .inr ⟨fun q hq => by rw [<- hv.1] at hq; simp at hq; omega, .inl rfl⟩
    · simp only [Value.slice.injEq] at e1
      obtain ⟨rfl, _, rfl⟩ := e1
      by_cases hroom : n + m <= c
      · have hsz : n * i.size + news.length <= cur.size := by
          have : (n + m) * size <= c * size := Nat.mul_le_mul_right _ hroom
          rw [hi.2.1, hl, h5, Nat.add_mul] at *
          omega
        have h0 := run_append_room (P := P) w t 0 e i hu hinf g n c cur hg a m mc news (by rw [hl, hi.2.1]) hcells h1 hroom hsz
        rw [h0] at hrun
        injection hrun with hv _
        simp only [Value.slice.injEq] at hv
        exact .inl ⟨by rw [<- hv.1], hroom⟩
      · have holds : ∀ j v, xs[j]? = some v -> w.cell? ((⟨g, 0, none⟩ : Addr).add j) = some v := World.ownsRow.cells h rfl
        have hfit : Builtin.nextslicecap (n + m) c * i.bytes <= 281474976710656 := by
          rw [hi.2.2]; exact growslice_fits (by omega) hbytes
        have h0 := run_append_grow (P := P) w t 0 e i z hu hinf hi.1 ⟨g, 0, none⟩ n c xs (by rw [h.len, hi.2.1]) holds a m mc news (by rw [hl, hi.2.1]) hcells (by omega) (by simp only [maxLen] at hnm; omega) hfit
        rw [h0] at hrun
        injection hrun with hv _
        simp only [Value.slice.injEq] at hv
        exact .inr ⟨fun q hq => by rw [<- hv.1] at hq; simp at hq; omega, .inr (by omega)⟩
theorem AllO.put {w : World} {B k : Nat} {cs : List Value} {x : List D0} {f : List Nat} (hk : cs.length = k) (ho : Owns w B cs x f) : ∀ {css : List (List Value)} {l : List (List D0)} {fs : List (List Nat)} (i : Nat), AllO w B k css l fs -> AllO w B k (css.set i cs) (l.set i x) (fs.set i f)
  | [], [], [], _, _ => trivial
  | _ :: _, _ :: _, _ :: _, 0, h => ⟨hk, ho, h.2.2⟩
  | _ :: _, _ :: _, _ :: _, i + 1, h => ⟨h.1, h.2.1, AllO.put hk ho i h.2.2⟩
  | [], [], _ :: _, _, h => h.elim
  | [], _ :: _, _, _, h => h.elim
  | _ :: _, [], _, _, h => h.elim
  | _ :: _, _ :: _, [], _, h => h.elim
theorem mem_put {α : Type} {fs : List (List α)} {f : List α} {i : Nat} {y : α} (h : y ∈ (fs.set i f).flatten) : y ∈ f ∨ y ∈ fs.flatten := by
  obtain ⟨g, hg, hy⟩ := List.mem_flatten.1 h
  rcases List.mem_or_eq_of_mem_set hg with h1 | h1
  · exact .inr (List.mem_flatten.2 ⟨g, h1, hy⟩)
  · rw [h1] at hy; exact .inl hy
theorem nodup_put {α : Type} {fs : List (List α)} {f : List α} (h : fs.flatten.Nodup) (hf : f.Nodup) (hd : ∀ y ∈ f, y ∉ fs.flatten) (i : Nat) : (fs.set i f).flatten.Nodup := by
  induction fs generalizing i with
  | nil => simp
  | cons g fs ih =>
    rw [List.flatten_cons, List.nodup_append] at h
    cases i with
    | zero =>
      rw [List.set_cons_zero, List.flatten_cons, List.nodup_append]
      exact ⟨hf, h.2.1, fun a ha b hb e => hd a ha (by rw [e, List.flatten_cons]; exact List.mem_append_right _ hb)⟩
    | succ i =>
      rw [List.set_cons_succ, List.flatten_cons, List.nodup_append]
      refine ⟨h.1, ih h.2.1 (fun y hy hm => hd y hy (by rw [List.flatten_cons]; exact List.mem_append_right _ hm)) i, fun a ha b hb e => ?_⟩
      rcases mem_put hb with hb | hb
      · exact hd b hb (by rw [<- e, List.flatten_cons]; exact List.mem_append_left _ ha)
      · exact h.2.2 a ha b hb e
theorem OwnRows.put {w : World} {B : Nat} {e : TypeId} {k : Nat} {p : Option Addr} {n c : Nat} {l : List (List D0)} {f : List Nat} (h : OwnRows w B e k p n c l f) {i : Nat} {x : List D0} (hx : l[i]? = some x) :
    ∃ b xs cs zs, p = some ⟨b, 0, none⟩ /\ B <= b /\ b ∈ f /\ xs.length = i * k /\ cs.length = k /\ Blk w b e (xs ++ cs ++ zs) /\ Reps w cs x /\
      ∀ w' cs' x' f', Chg [b] w w' -> cs'.length = k -> Blk w' b e (xs ++ cs' ++ zs) -> Owns w' B cs' x' f' -> f'.Nodup -> (∀ y ∈ f', y ∉ f) -> ∃ f'', OwnRows w' B e k p n c (l.set i x') f'' /\ ∀ q ∈ f'', q ∈ f ∨ q ∈ f' := by
  obtain ⟨hl, css, fs, ha, ho, rfl, hnd⟩ := h
  have hi : i < l.length := (List.getElem?_eq_some_iff.1 hx).1
  obtain ⟨cs, fi, hcs, hfi, hk, how⟩ := ha.focus i x hx
  obtain ⟨hlen, hcl, hfl⟩ := ha.lens
  obtain ⟨b, ys, rfl, hb, hblk, hyl, hnc, hc, hy⟩ := ho.blk (by omega)
  have hsp := congrArg List.flatten (cons_at hcs)
  rw [List.flatten_append, List.flatten_cons] at hsp
  have hA : (css.take i).flatten.length = i * k := by
    rw [flat_len fun c hc => hlen c (List.mem_of_mem_take hc), List.length_take, Nat.min_eq_left (by omega)]
  have hys : ys = (css.take i).flatten ++ cs ++ ((css.drop (i + 1)).flatten ++ ys.drop (n * k)) := by
    conv => lhs; rw [<- List.take_append_drop (n * k) ys, hy, hsp]
    simp
  have hnd1 := List.nodup_append.1 hnd
  have hpin : ∀ q ∈ fs.flatten, q ∉ [b] := fun q hq hm => hnd1.2.2 q (by simpa using hm) q hq rfl
  rw [hys] at hblk
  refine ⟨b, _, cs, _, rfl, hb, by simp, hA, hk, hblk, how.reps, ?_⟩
  intro w' cs' x' f' hch hk' hblk' how' hnf hdis
  have ha' := AllO.put hk' how' i (ha.chg hch hpin)
  have hset : (css.set i cs').flatten = (css.take i).flatten ++ cs' ++ (css.drop (i + 1)).flatten := by
    rw [List.set_eq_take_append_cons_drop, if_pos (by omega), List.flatten_append, List.flatten_cons, List.append_assoc]
  refine ⟨[b] ++ (fs.set i f').flatten, ⟨by simpa using hl, _, _, ha', ?_, by simp, ?_⟩, ?_⟩
  · rw [hset]
    have hlen2 : ((css.take i).flatten ++ cs' ++ (css.drop (i + 1)).flatten).length = n * k := by
      rw [<- hset, flat_len (k := k) (fun c hc => by
        rcases List.mem_or_eq_of_mem_set hc with h1 | h1
        · exact hlen c h1
        · rw [h1]; exact hk')]
      rw [List.length_set, show css.length = n by omega]
    have hyl2 : ((css.take i).flatten ++ cs' ++ ((css.drop (i + 1)).flatten ++ ys.drop (n * k))).length = c * k := by
      rw [<- hyl]
      conv => rhs; rw [hys]
      simp only [List.length_append, hk, hk']
    have := Own.of_blk' (B := B) (n := n) hblk' hb hyl2 hnc hc
    rwa [<- List.append_assoc, List.take_left' hlen2] at this
  · rw [List.nodup_append]
    refine ⟨by simp, nodup_put hnd1.2.1 hnf (fun y hy hm => hdis y hy (List.mem_append_right _ hm)) i, ?_⟩
    intro a ha b' hb' hab
    subst hab
    rcases mem_put hb' with hb' | hb'
    · exact hdis a hb' (by simp at ha; subst ha; simp)
    · exact hpin a hb' ha
  · intro q hq
    rcases List.mem_append.1 hq with hq | hq
    · exact .inl (by simp at hq; subst hq; simp)
    · rcases mem_put hq with hq | hq
      · exact .inr hq
      · exact .inl (List.mem_append_right _ hq)
end Go.Proofs.YtbgokfhcgcoipaaGreat.Sx
namespace Go.Proofs.YtbgokfhcgcoipaaGreat
open Go Go.Proofs.YtbgokfhcgcoipaaGreat.Sx
theorem isNaN_c (x : Int) (w : World) : Ret P n_cmp_isNaN_int [.int .i64 x] w fun v w' => v = .bool false /\ w' = w := by
  refine cmp_isNaN_int_ret ?_
  unfold cmp_isNaN_int
  exact ⟨by simp, rfl⟩
theorem cmpCompare_c (x y : Int) (w : World) : Ret P n_cmp_Compare_int [.int .i64 x, .int .i64 y] w fun v w' => v = .int .i64 (if x < y then -1 else if y < x then 1 else 0) /\ w' = w := by
  refine cmp_Compare_int_ret ?_
  unfold cmp_Compare_int
  refine Ret.at (isNaN_c x w) ?_
  rintro v w1 ⟨rfl, rfl⟩
  refine ⟨_, rfl, Ret.at (isNaN_c y w1) ?_⟩
  rintro v w2 ⟨rfl, rfl⟩
  refine ⟨_, rfl, ifF (ifF ?_)⟩
  exact ifD (fun h => ⟨by rw [if_pos h], rfl⟩) (fun h => ifD (fun h2 => ⟨by rw [if_neg h, if_pos h2], rfl⟩) (fun h2 => ⟨by rw [if_neg h, if_neg h2], rfl⟩))
theorem cmpOr_c {w : World} {p : Option Addr} {c : Nat} {x y : Int} (h : IntsR w p 2 c [x, y]) : Ret P n_cmp_Or_int [.slice p 2 c] w fun v w' => v = .int .i64 (if x ≠ 0 then x else y) /\ w' = w := by
  refine cmp_Or_int_ret ?_
  unfold cmp_Or_int
  refine ⟨fun i W => ∃ k : Nat, i = k /\ k <= 2 /\ W = w /\ (0 < k -> x = 0) /\ (1 < k -> y = 0), fun i _ => 2 - i.toNat, ⟨0, rfl, by omega, rfl, fun h => by omega, fun h => by omega⟩, ?_⟩
  rintro junk W i ⟨k, rfl, hk, rfl, h1, h2⟩
  refine ifD (fun hlt => ?_) (fun hge => ?_)
  · obtain ⟨a, rfl, hld⟩ := ints_at h (i := (k : Int)) (by omega) (by omega)
    refine ⟨⟨by omega, by omega⟩, _, hld, ?_⟩
    rw [Int.toNat_natCast]
    have hk2 : k = 0 ∨ k = 1 := by omega
    refine ifD (fun hne => ?_) (fun heq => ?_)
    · rcases hk2 with rfl | rfl
      · have hne : x ≠ 0 := hne
        exact ⟨by rw [if_pos hne]; rfl, rfl⟩
      · have hx := h1 (by omega)
        exact ⟨by rw [hx]; rfl, rfl⟩
    · refine exW ⟨by omega, by omega⟩ ⟨⟨k + 1, by omega, by omega, rfl, fun _ => ?_, fun h => ?_⟩, ?_⟩
      · rcases hk2 with rfl | rfl
        · exact Decidable.not_not.1 heq
        · exact h1 (by omega)
      · rcases hk2 with rfl | rfl
        · omega
        · exact Decidable.not_not.1 heq
      · show 2 - ((k : Int) + 1).toNat < 2 - (k : Int).toNat
        omega
  · have : k = 2 := by omega
    subst this
    exact ⟨by rw [h1 (by omega), h2 (by omega)]; rfl, rfl⟩
def ltS (rs : List Nat) (x y : El) : Prop := rs.getD y.1.toNat 0 < rs.getD x.1.toNat 0 ∨ rs.getD x.1.toNat 0 = rs.getD y.1.toNat 0 /\ x.1 < y.1
theorem cmpL_digs_sign (a b : Nat) : (cmpL (digs a) (digs b) < 0 ↔ a < b) /\ (cmpL (digs a) (digs b) = 0 ↔ a = b) := by
  have h := cmpL_val (digs_canon a) (digs_canon b)
  rw [val_digs, val_digs] at h
  omega
theorem sharesCmp_c {w : World} {x y : El} {a b : Nat} (h : IntsR w x.2.1 x.2.2.1 x.2.2.2 (digs a)) (k : IntsR w y.2.1 y.2.2.1 y.2.2.2 (digs b)) :
    Calls P 46 ⟨[.agg ⟨cE x⟩, .agg ⟨cE y⟩]⟩ w fun e w' => ∃ z : Int, e = .returned (.int .i64 z) /\ (z < 0 ↔ b < a ∨ a = b /\ x.1 < y.1) /\ Ext w w' := by
  have hh : Ret P n_impl_Shares_1 [.agg ⟨cE x⟩, .agg ⟨cE y⟩] w fun v w' => ∃ z : Int, v = .int .i64 z /\ (z < 0 ↔ b < a ∨ a = b /\ x.1 < y.1) /\ Ext w w' := by
    refine impl_Shares_1_ret ?_
    unfold impl_Shares_1
    intro r w1 hn1 r1 w2 hn2
    have X := (hn1.ext.trans hn2.ext).trans (Ext.drew w2)
    have b0 := (hn1.blk.ext hn2.ext).ext (Ext.drew w2); have b1 := hn2.blk.ext (Ext.drew w2)
    refine ⟨_, _, _, fun W hW => (b1.ext hW).loadAt 1 rfl (by kernel_rfl) rfl, _, _, _, fun W hW => (b0.ext hW).loadAt 1 rfl (by kernel_rfl) rfl, ?_⟩
    refine Ret.at (impl_natCmp_c (k.ext X) (h.ext X)) ?_
    rintro v w3 ⟨rfl, y3⟩
    refine ⟨_, rfl, y3, _, fun W hW => (b0.ext hW).loadAt 0 rfl (by kernel_rfl) rfl, _, fun W hW => (b1.ext hW).loadAt 0 rfl (by kernel_rfl) rfl, ?_⟩
    refine Ret.at (cmpCompare_c x.1 y.1 w3) ?_
    rintro v w4 ⟨rfl, rfl⟩
    refine ⟨_, rfl, ?_⟩
    intro r2 w5 hn5
    have hi : IntsR w5 (some ⟨r2, 0, none⟩) 2 2 [cmpL (digs b) (digs a), if x.1 < y.1 then -1 else if y.1 < x.1 then 1 else 0] := by
      have := Own.of_blk (base := 0) (size := 1) (n := 2) hn5.blk (Nat.zero_le _) rfl (by decide)
      exact Own.ints (zs := [cmpL (digs b) (digs a), if x.1 < y.1 then -1 else if y.1 < x.1 then 1 else 0]) this
    refine Ret.at (cmpOr_c hi) ?_
    rintro v w6 ⟨rfl, rfl⟩
    refine ⟨_, rfl, _, rfl, ?_, (X.trans y3).trans hn5.ext⟩
    obtain ⟨s1, s2⟩ := cmpL_digs_sign b a
    by_cases h0 : cmpL (digs b) (digs a) = 0
    · rw [if_neg (by simpa using h0)]
      have := s2.1 h0
      subst this
      by_cases h1 : x.1 < y.1
      · rw [if_pos h1]; simp [h1]
      · rw [if_neg h1]
        split <;> simp [h1]
    · rw [if_pos h0]
      have : ¬ b = a := fun e => h0 (s2.2 e)
      rw [s1]
      omega
  refine Calls.mono hh ?_
  rintro e w' ⟨v, rfl, z, rfl, h1, h2⟩
  exact ⟨z, rfl, h1, h2⟩
theorem sliceT_part : sliceT P T_s_impl_part T_impl_part (.agg #[.int .i64 0, .slice none 0 0]) 2 32 := ⟨by kernel_rfl, by kernel_rfl, rfl, by decide⟩
theorem flE_one (l : List El) : ∀ v ∈ flE l, v.oneCell' = true := fun v hv => by
  obtain ⟨x, _, h2⟩ := List.mem_flatMap.1 (show v ∈ l.flatMap cE from by rw [List.flatMap_def]; exact hv)
  simp only [cE, List.mem_cons, List.not_mem_nil, or_false] at h2
  rcases h2 with rfl | rfl <;> rfl
theorem so_pairwise {lt : El -> El -> Prop} {l : List El} (h : SO (LE lt) (atE l) 0 l.length) : l.Pairwise (LE lt) := by
  rw [List.pairwise_iff_getElem]
  intro i j hi hj hij
  have := h i j (Nat.zero_le _) hij hj
  unfold atE at this
  rwa [List.getD_eq_getElem?_getD, List.getD_eq_getElem?_getD, List.getElem?_eq_getElem hi, List.getElem?_eq_getElem hj] at this
theorem sortBy_c {w : World} {B bp n c : Nat} {l0 : List El} {rs : List Nat} (ho : Own w B T_impl_part 2 (some ⟨bp, 0, none⟩) n c (flE l0)) (hn0 : 0 < n) (hn : n <= 30)
    (hr : ∀ e ∈ l0, IntsR w e.2.1 e.2.2.1 e.2.2.2 (digs (rs.getD e.1.toNat 0)) /\ (∀ q, e.2.1.map (·.block) = some q -> q < w.heap.size)) :
    Ret P n_impl_sortBy_impl_part [.slice (some ⟨bp, 0, none⟩) n c, .func (.func 46) #[] #[]] w fun v w' => ∃ b c' zs l', v = .slice (some ⟨b, 0, none⟩) n c' /\ w.heap.size <= b /\ RB w' b zs l' /\ n <= c' /\ l'.Perm l0 /\ l'.Pairwise (LE (ltS rs)) /\ Ext w w' := by
  have hl0 : l0.length = n := by have := ho.len; rw [flE_len] at this; omega
  refine impl_sortBy_impl_part_ret ?_
  unfold impl_sortBy_impl_part
  have hclone : Ret P n_slices_Clone_impl_part_impl_part [.slice (some ⟨bp, 0, none⟩) n c] w fun v w' => ∃ b c' zs, v = .slice (some ⟨b, 0, none⟩) n c' /\ w.heap.size <= b /\ RB w' b zs l0 /\ n <= c' /\ Ext w w' := by
    refine slices_Clone_impl_part_impl_part_ret ?_
    unfold slices_Clone_impl_part_impl_part
    refine ⟨fun h => by simp at h, fun _ => ?_⟩
    intro r w1 hn1
    have er := hn1.r_eq; have sr := hn1.size
    have o0 : Own w1 w.heap.size T_impl_part 2 (some ⟨r, 0, none⟩) 0 0 [] := Own.of_blk0 hn1.blk (by omega) (by simp) (by decide)
    obtain ⟨b', ys, hbe, _, hblk, hyl, hnc, hcm, hy⟩ := (ho.ext hn1.ext).blk hn0
    simp only [Option.some.injEq, Addr.mk.injEq, and_true, true_and] at hbe
    subst hbe
    obtain ⟨p', c', w2, hA, hO, hC, hP⟩ := o0.pushN (mc := c) (m := n) (a := ⟨bp, 0, none⟩) (news := flE l0) sliceT_part (by omega) (fun j u hj => by
      rw [addr_add, Nat.zero_add, hblk.cell]
      rw [<- hy] at hj
      rw [List.getElem?_take] at hj
      split at hj
      · exact hj
      · simp at hj) (by rw [flE_len, hl0]) (flE_one _) (by omega) (by decide) hn0
    obtain ⟨b, ys2, rfl, hb2, hblk2, hyl2, hnc2, hcm2, hy2⟩ := hO.blk (by omega)
    rw [Nat.zero_add] at hA hO hnc2 hy2
    refine ⟨_, _, _, w2, hA, b, c', ys2.drop (n * 2), by simp, hb2, ?_, hnc2, hn1.ext.chg hC (by simp; omega)⟩
    unfold RB
    have : flE l0 ++ ys2.drop (n * 2) = ys2 := by
      conv => rhs; rw [<- List.take_append_drop (n * 2) ys2, hy2]
      simp
    rw [this]; exact hblk2
  refine Ret.at hclone ?_
  rintro v w1 ⟨b, c1, zs, rfl, hb, hrb, hc1, y1⟩
  refine ⟨_, _, _, rfl, ?_⟩
  have cm : Cm w1 b l0 (.func (.func 46) #[] #[]) (ltS rs) := by
    refine ⟨fun W x y hW hx hy => ?_, fun x y h1 h2 => ?_, fun x y z h1 h2 h3 => ?_⟩
    · obtain ⟨i1, d1⟩ := hr x hx
      obtain ⟨i2, d2⟩ := hr y hy
      have t1 := (i1.ext y1).chg hW (fun q hq hm => by have := d1 q hq; simp at hm; omega)
      have t2 := (i2.ext y1).chg hW (fun q hq hm => by have := d2 q hq; simp at hm; omega)
      refine ⟨46, [], [], rfl, by kernel_rfl, ?_⟩
      exact sharesCmp_c t1 t2
    · unfold ltS at h1 h2; omega
    · unfold ltS at h1 h2 h3; omega
  have hsort : Ret P n_slices_SortStableFunc_impl_part_impl_part [.slice (some ⟨b, 0, none⟩) n c1, .func (.func 46) #[] #[]] w1 fun v w' => v = .tuple #[] /\ ∃ l', SS w1 b zs l0 w' l' /\ SO (LE (ltS rs)) (atE l') 0 l0.length := by
    refine slices_SortStableFunc_impl_part_impl_part_ret ?_
    unfold slices_SortStableFunc_impl_part_impl_part
    have := stable_c (cp := c1) cm (l := l0) ⟨hrb, List.Perm.refl _, Chg.refl _ _⟩ (by omega)
    rw [hl0] at this
    refine Ret.at this ?_
    rintro v w2 ⟨rfl, l', hs, hso⟩
    exact ⟨rfl, rfl, l', hs, by rw [hl0]; exact hso⟩
  refine Ret.at hsort ?_
  rintro v w2 ⟨rfl, l', hs, hso⟩
  refine ⟨rfl, b, c1, zs, l', rfl, hb, hs.rb, hc1, hs.pm, so_pairwise (by rw [hs.len]; exact hso), y1.chg hs.ch (by simp; omega)⟩
end Go.Proofs.YtbgokfhcgcoipaaGreat
namespace Go.Proofs.YtbgokfhcgcoipaaGreat
open Go Go.Proofs.YtbgokfhcgcoipaaGreat.Sx
theorem tmod_limb {t : Int} (h : 0 <= t) : Int.tmod t 1000000000 = t % 1000000000 := Int.tmod_eq_emod_of_nonneg h
theorem tdiv_limb {t : Int} (h : 0 <= t) : Int.tdiv t 1000000000 = t / 1000000000 := Int.tdiv_eq_ediv_of_nonneg h
theorem add_step {a b o : List Int} {k : Nat} {carry t : Int} (hl : o.length = k) (hv : val o + 1000000000 ^ k * carry = val (a.take k) + val (b.take k)) (ht : t = carry + a.getD k 0 + b.getD k 0) :
    val (o ++ [t % 1000000000]) + 1000000000 ^ (k + 1) * (t / 1000000000) = val (a.take (k + 1)) + val (b.take (k + 1)) := by
  rw [val_snoc, hl, val_take_succ, val_take_succ, Int.pow_succ, Int.mul_assoc]
  have e : (1000000000 : Int) ^ k * (t % 1000000000) + 1000000000 ^ k * (1000000000 * (t / 1000000000)) = 1000000000 ^ k * t := by
    rw [<- Int.mul_add]; congr 1; omega
  have e2 : (1000000000 : Int) ^ k * t = 1000000000 ^ k * carry + 1000000000 ^ k * a.getD k 0 + 1000000000 ^ k * b.getD k 0 := by
    rw [ht, Int.mul_add, Int.mul_add]
  omega
theorem limb_mod (t : Int) : 0 <= t % 1000000000 /\ t % 1000000000 < 1000000000 := by omega
theorem Limbs.snoc {o : List Int} {x : Int} (h : Limbs o) (hx : 0 <= x /\ x < 1000000000) : Limbs (o ++ [x]) := Limbs.append.2 ⟨h, Limbs.cons.2 ⟨hx, Limbs.nil⟩⟩
def AddInv (w : World) (a b : List Int) (p : Option Addr) (n c : Nat) (carry i : Int) (wr : World) : Prop :=
 ∃ (k : Nat) (o : List Int), i = k /\ n = k /\ k <= a.length + b.length /\ Own wr w.heap.size T_int 1 p n c (o.map (Value.int .i64)) /\ Ext w wr /\ Limbs o /\ o.length = k /\ 0 <= carry /\ carry <= 1 /\ val o + 1000000000 ^ k * carry = val (a.take k) + val (b.take k)
theorem impl_natAdd_c {w : World} {p q : Option Addr} {n c m d : Nat} {a b : List Int} (h : IntsR w p n c a) (k : IntsR w q m d b) (ha : Limbs a) (hb : Limbs b) (hn : n <= 10000000) (hm : m <= 10000000) :
    Ret P n_impl_natAdd [.slice p n c, .slice q m d] w fun v w' => ∃ p' n' c', v = .slice p' n' c' /\ Own w' w.heap.size T_int 1 p' n' c' ((digs (val a + val b).toNat).map (Value.int .i64)) /\ Ext w w' := by
  refine impl_natAdd_ret ?_
  unfold impl_natAdd
  have hla := h.1; have hlb := k.1
  obtain ⟨M, hM⟩ : ∃ M : Nat, M = max n m := ⟨_, rfl⟩
  have e12 : (if ((m : Nat) : Int) > ((n : Nat) : Int) then ((m : Nat) : Int) else ((n : Nat) : Int)) = M := by split <;> omega
  refine ⟨_, rfl, ?_⟩
  rw [e12]
  refine exW ⟨by omega, by omega⟩ ⟨⟨by omega, by omega, by omega⟩, fun r w1 hn1 => ?_⟩
  refine ⟨AddInv w a b, fun _ _ _ _ i _ => M + 1 - i.toNat, ⟨0, [], rfl, rfl, by omega, ?_, hn1.ext, Limbs.nil, rfl, by omega, by omega, by simp [val]⟩, ?_⟩
  · exact Own.of_blk0 (n := ((M : Int) + 1).toNat) hn1.blk (by rw [hn1.r_eq]; exact Nat.le_refl _) (by simp [zeroRow]) (by simp only [maxLen]; omega)
  intro junk wr op on oc carry i ⟨j, o, hi, hon, hkl, hown, hx, hlo, hol, hc0, hc1, hv⟩
  subst hi; subst hon
  have A := ha.getD on; have B := hb.getD on
  have ab : (on : Int) < n ∨ a.getD on 0 = 0 := by
    by_cases e : on < n
    · left; omega
    · right; exact getD_beyond (by omega)
  have bb : (on : Int) < m ∨ b.getD on 0 = 0 := by
    by_cases e : on < m
    · left; omega
    · right; exact getD_beyond (by omega)
  have J1 : ∀ t, t = carry + a.getD on 0 + b.getD on 0 -> (on : Int) < M -> impl_natAdd_j1 wr (AddInv w a b) (fun _ _ _ _ i _ => M + 1 - i.toNat) op on oc carry on t wr fun v w' => ∃ p' n' c', v = .slice p' n' c' /\ Own w' w.heap.size T_int 1 p' n' c' ((digs (val a + val b).toNat).map (Value.int .i64)) /\ Ext w w' := by
    intro t ht hlt
    unfold impl_natAdd_j1
    refine ⟨by decide, _, rfl, fun r1 w2 hn2 => ?_⟩
    rw [tmod_limb (by omega)] at hn2
    obtain ⟨p', c', w3, h1, h2, h3⟩ := Own.push hown hx.le hn2 (by omega)
    refine ⟨_, _, _, _, h1, by decide, ?_⟩
    rw [tdiv_limb (by omega)]
    refine exW ⟨by omega, by omega⟩ (exW ⟨by omega, by omega⟩ ⟨⟨on + 1, o ++ [t % 1000000000], by omega, rfl, by omega, h2, h3 w hx (Nat.le_refl _), hlo.snoc (limb_mod t), by simp [hol], by omega, by omega, add_step hol hv ht⟩, ?_⟩)
    show M + 1 - ((on : Int) + 1).toNat < M + 1 - (on : Int).toNat
    omega
  have J0 : ∀ t, t = carry + a.getD on 0 -> (on : Int) < M -> impl_natAdd_j0 q m wr (AddInv w a b) (fun _ _ _ _ i _ => M + 1 - i.toNat) op on oc carry on t wr fun v w' => ∃ p' n' c', v = .slice p' n' c' /\ Own w' w.heap.size T_int 1 p' n' c' ((digs (val a + val b).toNat).map (Value.int .i64)) /\ Ext w w' := by
    intro t ht hlt
    unfold impl_natAdd_j0
    refine ifD (fun hlm => ?_) (fun hge => J1 _ (by rw [bb.resolve_left hge]; omega) hlt)
    obtain ⟨ad, rfl, hl⟩ := ints_at (k.ext hx) (i := (on : Int)) (by omega) hlm
    exact ⟨⟨by omega, by omega⟩, _, hl, exW ⟨by simp only [Int.toNat_natCast]; omega, by simp only [Int.toNat_natCast]; omega⟩ (J1 _ (by simp only [Int.toNat_natCast]; omega) hlt)⟩
  refine ⟨_, rfl, ?_⟩
  refine ifD (fun hlt => ifD (fun hln => ?_) (fun hge => J0 _ (by rw [ab.resolve_left hge]; omega) hlt)) (fun hge => ?_)
  · obtain ⟨ad, rfl, hl⟩ := ints_at (h.ext hx) (i := (on : Int)) (by omega) hln
    exact ⟨⟨by omega, by omega⟩, _, hl, exW ⟨by simp only [Int.toNat_natCast]; omega, by simp only [Int.toNat_natCast]; omega⟩ (J0 _ (by simp only [Int.toNat_natCast]) hlt)⟩
  · intro r2 w2 hn2
    have hk : on <= 20000000 := by omega
    obtain ⟨p', c', w3, h1, h2, h3⟩ := Own.push hown hx.le hn2 (by omega)
    refine ⟨_, _, _, _, h1, ?_⟩
    have hlim : Limbs (o ++ [carry]) := hlo.snoc (by omega)
    have hval : val (o ++ [carry]) = val a + val b := by
      rw [val_snoc, hol, hv, List.take_of_length_le (by omega), List.take_of_length_le (by omega)]
    refine Ret.at (impl_trim_c h2.ints) ?_
    rintro v w4 ⟨hv4, hw4, hr4⟩
    subst hv4; subst hw4
    refine ⟨_, _, _, rfl, _, _, _, rfl, ?_, h3 w hx (Nat.le_refl _)⟩
    have e := trimL_eq hlim
    rw [hval] at e
    rw [<- e]
    have hle := trimL_len (o ++ [carry])
    have := h2.sub (m := (trimL (o ++ [carry])).length) (by simp [hol] at hle ⊢; omega)
    rwa [<- trimL_prefix] at this
theorem sub_step {a b o : List Int} {k : Nat} {less t u less' : Int} (hl : o.length = k) (hv : val o - 1000000000 ^ k * less = val (a.take k) - val (b.take k)) (ht : t = a.getD k 0 - less - b.getD k 0) (hu : u = t + 1000000000 * less') :
    val (o ++ [u]) - 1000000000 ^ (k + 1) * less' = val (a.take (k + 1)) - val (b.take (k + 1)) := by
  rw [val_snoc, hl, val_take_succ, val_take_succ, Int.pow_succ, Int.mul_assoc]
  have e2 : (1000000000 : Int) ^ k * u = 1000000000 ^ k * a.getD k 0 - 1000000000 ^ k * less - 1000000000 ^ k * b.getD k 0 + 1000000000 ^ k * (1000000000 * less') := by
    rw [hu, ht, Int.mul_add, Int.mul_sub, Int.mul_sub]
  omega
theorem sub_end {a b o : List Int} {less : Int} (hlo : Limbs o) (ho : o.length = a.length) (hbl : b.length <= a.length) (hab : val b <= val a) (h0 : 0 <= less) (h1 : less <= 1)
    (hv : val o - 1000000000 ^ a.length * less = val (a.take a.length) - val (b.take a.length)) : val o = val a - val b := by
  rw [List.take_of_length_le (Nat.le_refl _), List.take_of_length_le hbl] at hv
  have h := val_lt hlo
  rw [ho] at h
  have : less = 0 ∨ less = 1 := by omega
  rcases this with e | e
  · subst e; omega
  · subst e; omega
theorem impl_natSub_c {w : World} {p q : Option Addr} {n c m d : Nat} {a b : List Int} (h : IntsR w p n c a) (k : IntsR w q m d b) (ha : Limbs a) (hb : Limbs b) (hn : n <= 10000000) (hbl : m <= n) (hab : val b <= val a) :
    Ret P n_impl_natSub [.slice p n c, .slice q m d] w fun v w' => ∃ p' n' c', v = .slice p' n' c' /\ Own w' w.heap.size T_int 1 p' n' c' ((digs (val a - val b).toNat).map (Value.int .i64)) /\ Ext w w' := by
  refine impl_natSub_ret ?_
  unfold impl_natSub
  have hla := h.1; have hlb := k.1
  refine ⟨⟨by omega, by omega, by omega⟩, fun r w1 hn1 => ?_⟩
  have hre := hn1.r_eq
  let Inv : Int -> Int -> World -> Prop := fun less i wr => ∃ (j : Nat) (o : List Int), i = j /\ j <= n /\ Blk wr r T_int (o.map (Value.int .i64) ++ List.replicate (n - j) (Value.int .i64 0)) /\ Ext w wr /\ Limbs o /\ o.length = j /\ 0 <= less /\ less <= 1 /\ val o - 1000000000 ^ j * less = val (a.take j) - val (b.take j)
  refine ⟨Inv, fun _ i _ => n - i.toNat, ⟨0, [], rfl, by omega, ?_, hn1.ext, Limbs.nil, rfl, by omega, by omega, by simp [val]⟩, ?_⟩
  · have := hn1.blk
    rw [zeroRow_int, Nat.mul_one] at this
    simpa using this
  intro junk wr less i ⟨j, o, hi, hjn, hblk, hx, hlo, hol, hc0, hc1, hv⟩
  subst hi
  have A := ha.getD j; have B := hb.getD j
  have bb : (j : Int) < m ∨ b.getD j 0 = 0 := by
    by_cases e : j < m
    · left; omega
    · right; exact getD_beyond (by omega)
  have J1 : ∀ l' u, (j : Int) < n -> u = a.getD j 0 - less - b.getD j 0 + 1000000000 * l' -> 0 <= u -> u < 1000000000 -> 0 <= l' -> l' <= 1 ->
      impl_natSub_j1 n r wr Inv (fun _ i _ => n - i.toNat) less j l' u wr fun v w' => ∃ p' n' c', v = .slice p' n' c' /\ Own w' w.heap.size T_int 1 p' n' c' ((digs (val a - val b).toNat).map (Value.int .i64)) /\ Ext w w' := by
    intro l' u hlt hu h0 h1 h2 h3
    unfold impl_natSub_j1
    have hlen : (o.map (Value.int .i64) ++ List.replicate (n - j) (Value.int .i64 0)).length = n := by simp [hol]; omega
    obtain ⟨w2, hst, hb2, hc, hs⟩ := hblk.store (P := P) (t := T_int) (k := j) (v := .int .i64 u) (by kernel_rfl) (by omega) rfl
    refine ⟨⟨by omega, by omega⟩, w2, by simpa using hst, exW ⟨by omega, by omega⟩ ⟨⟨j + 1, o ++ [u], by omega, by omega, ?_, hx.chg hc (by simp; omega), hlo.snoc ⟨h0, h1⟩, by simp [hol], h2, h3, sub_step hol hv rfl hu⟩, ?_⟩⟩
    · rw [List.set_append_right _ _ (by simp [hol]), List.length_map, hol, Nat.sub_self] at hb2
      obtain ⟨z, hz⟩ : ∃ z, n - j = z + 1 := ⟨n - j - 1, by omega⟩
      rw [hz, List.replicate_succ, List.set_cons_zero] at hb2
      rw [show n - (j + 1) = z by omega]
      simpa using hb2
    · show n - ((j : Int) + 1).toNat < n - (j : Int).toNat
      omega
  have J0 : ∀ t, (j : Int) < n -> t = a.getD j 0 - less - b.getD j 0 ->
      impl_natSub_j0 n r wr Inv (fun _ i _ => n - i.toNat) less j t wr fun v w' => ∃ p' n' c', v = .slice p' n' c' /\ Own w' w.heap.size T_int 1 p' n' c' ((digs (val a - val b).toNat).map (Value.int .i64)) /\ Ext w w' := by
    intro t hlt ht
    unfold impl_natSub_j0
    exact ifD (fun hneg => exW ⟨by omega, by omega⟩ (J1 1 _ hlt (by omega) (by omega) (by omega) (by omega) (by omega))) (fun hpos => J1 0 _ hlt (by omega) (by omega) (by omega) (by omega) (by omega))
  refine ifD (fun hlt => ?_) (fun hge => ?_)
  · obtain ⟨ad, rfl, hl⟩ := ints_at (h.ext hx) (i := (j : Int)) (by omega) hlt
    refine ⟨⟨by omega, by omega⟩, _, hl, exW ⟨by simp only [Int.toNat_natCast]; omega, by simp only [Int.toNat_natCast]; omega⟩ (ifD (fun hlm => ?_) (fun hge => J0 _ hlt (by simp only [Int.toNat_natCast]; rw [bb.resolve_left hge]; omega)))⟩
    obtain ⟨ad2, rfl, hl2⟩ := ints_at (k.ext hx) (i := (j : Int)) (by omega) hlm
    exact ⟨⟨by omega, by omega⟩, _, hl2, exW ⟨by simp only [Int.toNat_natCast]; omega, by simp only [Int.toNat_natCast]; omega⟩ (J0 _ hlt (by simp only [Int.toNat_natCast]))⟩
  · have hjn' : j = n := by omega
    subst hjn'
    rw [Nat.sub_self, List.replicate_zero, List.append_nil] at hblk
    have hown : Own wr w.heap.size T_int 1 (some ⟨r, 0, none⟩) j j (o.map (Value.int .i64)) := Own.of_blk hblk (by omega) (by simp [hol]) (by simp only [maxLen]; omega)
    rw [<- hla] at hv
    have hval := sub_end hlo (by omega) (by omega) hab hc0 hc1 hv
    refine Ret.at (impl_trim_c hown.ints) ?_
    rintro v w4 ⟨hv4, hw4, hr4⟩
    subst hv4; subst hw4
    refine ⟨_, _, _, rfl, _, _, _, rfl, ?_, hx⟩
    have e := trimL_eq hlo
    rw [hval] at e
    rw [<- e]
    have hle := trimL_len o
    have := hown.sub (m := (trimL o).length) (by omega)
    rwa [<- trimL_prefix] at this
theorem spec_l02Sub_c {w : World} {p q : Option Addr} {n c m d : Nat} {a b : List Int} (h : IntsR w p n c a) (k : IntsR w q m d b) (ha : Limbs a) (hb : Limbs b) (hn : n <= 10000000) (hbl : m <= n) (hab : val b <= val a) :
    Ret P n_spec_l02Sub [.slice p n c, .slice q m d] w fun v w' => ∃ p' n' c', v = .slice p' n' c' /\ IntsR w' p' n' c' (digs (val a - val b).toNat) /\ Ext w w' := by
  refine spec_l02Sub_ret ?_
  unfold spec_l02Sub
  have hla := h.1; have hlb := k.1
  intro r w1 hn1
  let Inv : Option Addr -> Nat -> Nat -> Int -> Int -> World -> Prop := fun p on c less i wr => ∃ (o : List Int), i = on /\ on <= n /\ Own wr w.heap.size T_int 1 p on c (o.map (Value.int .i64)) /\ Ext w wr /\ Limbs o /\ o.length = on /\ 0 <= less /\ less <= 1 /\ val o - 1000000000 ^ on * less = val (a.take on) - val (b.take on)
  refine ⟨Inv, fun _ _ _ _ i _ => n - i.toNat, ⟨[], rfl, by omega, Own.fresh hn1, hn1.ext, Limbs.nil, rfl, by omega, by omega, by simp [val]⟩, ?_⟩
  intro junk wr op j oc less i ⟨o, hi, hjn, hown, hx, hlo, hol, hc0, hc1, hv⟩
  subst hi
  have A := ha.getD j; have B := hb.getD j
  have bb : (j : Int) < m ∨ b.getD j 0 = 0 := by
    by_cases e : j < m
    · left; omega
    · right; exact getD_beyond (by omega)
  have J1 : ∀ l' u, (j : Int) < n -> u = a.getD j 0 - less - b.getD j 0 + 1000000000 * l' -> 0 <= u -> u < 1000000000 -> 0 <= l' -> l' <= 1 ->
      spec_l02Sub_j1 wr Inv (fun _ _ _ _ i _ => n - i.toNat) op j oc less j l' u wr fun v w' => ∃ p' n' c', v = .slice p' n' c' /\ IntsR w' p' n' c' (digs (val a - val b).toNat) /\ Ext w w' := by
    intro l' u hlt hu h0 h1 h2 h3
    unfold spec_l02Sub_j1
    intro r1 w2 hn2
    obtain ⟨p', c', w3, g1, g2, g3⟩ := Own.push hown hx.le hn2 (by omega)
    refine ⟨_, _, _, _, g1, exW ⟨by omega, by omega⟩ ⟨⟨o ++ [u], by omega, by omega, g2, g3 w hx (Nat.le_refl _), hlo.snoc ⟨h0, h1⟩, by simp [hol], h2, h3, sub_step hol hv rfl hu⟩, ?_⟩⟩
    show n - ((j : Int) + 1).toNat < n - (j : Int).toNat
    omega
  have J0 : ∀ t, (j : Int) < n -> t = a.getD j 0 - less - b.getD j 0 ->
      spec_l02Sub_j0 wr Inv (fun _ _ _ _ i _ => n - i.toNat) op j oc less j t wr fun v w' => ∃ p' n' c', v = .slice p' n' c' /\ IntsR w' p' n' c' (digs (val a - val b).toNat) /\ Ext w w' := by
    intro t hlt ht
    unfold spec_l02Sub_j0
    exact ifD (fun hneg => exW ⟨by omega, by omega⟩ (J1 1 _ hlt (by omega) (by omega) (by omega) (by omega) (by omega))) (fun hpos => J1 0 _ hlt (by omega) (by omega) (by omega) (by omega) (by omega))
  refine ifD (fun hlt => ?_) (fun hge => ?_)
  · obtain ⟨ad, rfl, hl⟩ := ints_at (h.ext hx) (i := (j : Int)) (by omega) hlt
    refine ⟨⟨by omega, by omega⟩, _, hl, exW ⟨by simp only [Int.toNat_natCast]; omega, by simp only [Int.toNat_natCast]; omega⟩ (ifD (fun hlm => ?_) (fun hge => J0 _ hlt (by simp only [Int.toNat_natCast]; rw [bb.resolve_left hge]; omega)))⟩
    obtain ⟨ad2, rfl, hl2⟩ := ints_at (k.ext hx) (i := (j : Int)) (by omega) hlm
    exact ⟨⟨by omega, by omega⟩, _, hl2, exW ⟨by simp only [Int.toNat_natCast]; omega, by simp only [Int.toNat_natCast]; omega⟩ (J0 _ hlt (by simp only [Int.toNat_natCast]))⟩
  · have hjn' : j = n := by omega
    subst hjn'
    rw [<- hla] at hv
    have hval := sub_end hlo (by omega) (by omega) hab hc0 hc1 hv
    refine Ret.at (spec_l02Trim_c hown.ints) ?_
    rintro v w4 ⟨hv4, hw4, hr4⟩
    subst hv4; subst hw4
    refine ⟨_, _, _, rfl, _, _, _, rfl, ?_, hx⟩
    have e := trimL_eq hlo
    rw [hval] at e
    rw [<- e]
    exact hr4
theorem spec_l02Add_c {w : World} {p q : Option Addr} {n c m d : Nat} {a b : List Int} (h : IntsR w p n c a) (k : IntsR w q m d b) (ha : Limbs a) (hb : Limbs b) (hn : n <= 10000000) (hm : m <= 10000000) :
    Ret P n_spec_l02Add [.slice p n c, .slice q m d] w fun v w' => ∃ p' n' c' o, v = .slice p' n' c' /\ IntsR w' p' n' c' o /\ Limbs o /\ n' <= n + m + 1 /\ val o = val a + val b /\ Ext w w' := by
  refine spec_l02Add_ret ?_
  unfold spec_l02Add
  have hla := h.1; have hlb := k.1
  intro r w1 hn1
  let Inv : Option Addr -> Nat -> Nat -> Int -> Int -> World -> Prop := fun p on c carry i wr => ∃ (o : List Int), i = on /\ on <= n + m + 1 /\ (0 < carry -> on <= n + m) /\ Own wr w.heap.size T_int 1 p on c (o.map (Value.int .i64)) /\ Ext w wr /\ Limbs o /\ o.length = on /\ 0 <= carry /\ carry <= 1 /\ val o + 1000000000 ^ on * carry = val (a.take on) + val (b.take on)
  refine ⟨Inv, fun _ _ _ _ i _ => n + m + 2 - i.toNat, ⟨[], rfl, by omega, by omega, Own.fresh hn1, hn1.ext, Limbs.nil, rfl, by omega, by omega, by simp [val]⟩, ?_⟩
  intro junk wr op j oc carry i ⟨o, hi, hjn, hcj, hown, hx, hlo, hol, hc0, hc1, hv⟩
  subst hi
  have A := ha.getD j; have B := hb.getD j
  have ab : (j : Int) < n ∨ a.getD j 0 = 0 := by
    by_cases e : j < n
    · left; omega
    · right; exact getD_beyond (by omega)
  have bb : (j : Int) < m ∨ b.getD j 0 = 0 := by
    by_cases e : j < m
    · left; omega
    · right; exact getD_beyond (by omega)
  have J2 : ∀ t, t = carry + a.getD j 0 + b.getD j 0 -> (j < n ∨ j < m ∨ 0 < carry) -> spec_l02Add_j2 wr Inv (fun _ _ _ _ i _ => n + m + 2 - i.toNat) op j oc carry j t wr fun v w' => ∃ p' n' c' o, v = .slice p' n' c' /\ IntsR w' p' n' c' o /\ Limbs o /\ n' <= n + m + 1 /\ val o = val a + val b /\ Ext w w' := by
    intro t ht hlt
    unfold spec_l02Add_j2
    refine ⟨by decide, _, rfl, fun r1 w2 hn2 => ?_⟩
    rw [tmod_limb (by omega)] at hn2
    obtain ⟨p', c', w3, g1, g2, g3⟩ := Own.push hown hx.le hn2 (by omega)
    refine ⟨_, _, _, _, g1, by decide, ?_⟩
    rw [tdiv_limb (by omega)]
    have hcar : 0 < t / 1000000000 -> j < n ∨ j < m := by
      intro h0
      by_cases e : j < n
      · exact .inl e
      · by_cases e2 : j < m
        · exact .inr e2
        · have e3 := ab.resolve_left (by omega); have e4 := bb.resolve_left (by omega)
          rw [e3, e4] at ht; omega
    refine exW ⟨by omega, by omega⟩ (exW ⟨by omega, by omega⟩ ⟨⟨o ++ [t % 1000000000], by omega, by rcases hlt with h | h | h <;> omega, fun h0 => by rcases hcar h0 with h | h <;> omega, g2, g3 w hx (Nat.le_refl _), hlo.snoc (limb_mod t), by simp [hol], by omega, by omega, add_step hol hv ht⟩, ?_⟩)
    show n + m + 2 - ((j : Int) + 1).toNat < n + m + 2 - (j : Int).toNat
    rcases hlt with h | h | h <;> omega
  have J1 : ∀ t, t = carry + a.getD j 0 -> (j < n ∨ j < m ∨ 0 < carry) -> spec_l02Add_j1 q m wr Inv (fun _ _ _ _ i _ => n + m + 2 - i.toNat) op j oc carry j t wr fun v w' => ∃ p' n' c' o, v = .slice p' n' c' /\ IntsR w' p' n' c' o /\ Limbs o /\ n' <= n + m + 1 /\ val o = val a + val b /\ Ext w w' := by
    intro t ht hlt
    unfold spec_l02Add_j1
    refine ifD (fun hlm => ?_) (fun hge => J2 _ (by rw [bb.resolve_left hge]; omega) hlt)
    obtain ⟨ad, rfl, hl⟩ := ints_at (k.ext hx) (i := (j : Int)) (by omega) hlm
    exact ⟨⟨by omega, by omega⟩, _, hl, exW ⟨by simp only [Int.toNat_natCast]; omega, by simp only [Int.toNat_natCast]; omega⟩ (J2 _ (by simp only [Int.toNat_natCast]; omega) hlt)⟩
  have J0 : (j < n ∨ j < m ∨ 0 < carry) -> spec_l02Add_j0 p n q m wr Inv (fun _ _ _ _ i _ => n + m + 2 - i.toNat) op j oc carry j wr fun v w' => ∃ p' n' c' o, v = .slice p' n' c' /\ IntsR w' p' n' c' o /\ Limbs o /\ n' <= n + m + 1 /\ val o = val a + val b /\ Ext w w' := by
    intro hlt
    unfold spec_l02Add_j0
    refine ifD (fun hln => ?_) (fun hge => J1 _ (by rw [ab.resolve_left hge]; omega) hlt)
    obtain ⟨ad, hp, hl⟩ := ints_at (h.ext hx) (i := (j : Int)) (by omega) hln
    subst hp
    exact ⟨⟨by omega, by omega⟩, _, hl, exW ⟨by simp only [Int.toNat_natCast]; omega, by simp only [Int.toNat_natCast]; omega⟩ (J1 _ (by simp only [Int.toNat_natCast]) hlt)⟩
  have fin : ¬ (j : Int) < n -> ¬ (j : Int) < m -> ¬ 0 < carry -> ∃ p' n' c' o, Value.slice op j oc = .slice p' n' c' /\ IntsR wr p' n' c' o /\ Limbs o /\ n' <= n + m + 1 /\ val o = val a + val b /\ Ext w wr := by
    intro h1 h2 h3
    have hc : carry = 0 := by omega
    subst hc
    rw [List.take_of_length_le (by omega), List.take_of_length_le (by omega)] at hv
    exact ⟨_, _, _, o, rfl, hown.ints, hlo, hjn, by omega, hx⟩
  exact ifD (fun h1 => ifT (ifT (J0 (.inl (by omega))))) (fun h1 => ifD (fun h2 => ifT (J0 (.inr (.inl (by omega))))) (fun h2 => ifD (fun h3 => J0 (.inr (.inr h3))) (fun h3 => fin h1 h2 h3)))
end Go.Proofs.YtbgokfhcgcoipaaGreat
namespace Go.Proofs.YtbgokfhcgcoipaaGreat
open Go Go.Proofs.YtbgokfhcgcoipaaGreat.Sx
theorem val_set : ∀ (l : List Int) {k : Nat} (x : Int), k < l.length -> val (l.set k x) = val l + 1000000000 ^ k * (x - l.getD k 0)
  | [], k, x, h => by simp at h
  | y :: r, 0, x, _ => by simp [val]; omega
  | y :: r, k + 1, x, h => by
    have := val_set r (k := k) x (by simpa using h)
    simp only [List.set_cons_succ, val, this, List.getD_cons_succ, Int.pow_succ]
    rw [Int.mul_add, <- Int.mul_assoc, Int.mul_comm 1000000000 (1000000000 ^ k)]
    omega
theorem Limbs.set {l : List Int} {k : Nat} {x : Int} (h : Limbs l) (hx : 0 <= x /\ x < 1000000000) : Limbs (l.set k x) := fun y hy => by
  rcases List.mem_or_eq_of_mem_set hy with h1 | h1
  · exact h y h1
  · rw [h1]; exact hx
theorem mul_limb {x y : Int} (hx : 0 <= x /\ x < 1000000000) (hy : 0 <= y /\ y < 1000000000) : 0 <= x * y /\ x * y <= 999999998000000001 := by
  refine ⟨Int.mul_nonneg hx.1 hy.1, ?_⟩
  have h1 : x * y <= 999999999 * y := Int.mul_le_mul_of_nonneg_right (by omega) hy.1
  omega
theorem mul_step {b o : List Int} {i k : Nat} {carry t x V : Int} (hl : i + k < o.length) (hv : val o + 1000000000 ^ (i + k) * carry = V + x * 1000000000 ^ i * val (b.take k)) (ht : t = carry + (o.getD (i + k) 0 + x * b.getD k 0)) :
    val (o.set (i + k) (t % 1000000000)) + 1000000000 ^ (i + (k + 1)) * (t / 1000000000) = V + x * 1000000000 ^ i * val (b.take (k + 1)) := by
  rw [val_set o _ hl, val_take_succ, show i + (k + 1) = (i + k) + 1 by omega, Int.pow_succ, Int.mul_assoc]
  have e : (1000000000 : Int) ^ (i + k) * (t % 1000000000 - o.getD (i + k) 0) + 1000000000 ^ (i + k) * (1000000000 * (t / 1000000000)) = 1000000000 ^ (i + k) * (carry + x * b.getD k 0) := by
    rw [<- Int.mul_add]; congr 1; omega
  have e2 : x * (1000000000 : Int) ^ i * (val (b.take k) + 1000000000 ^ k * b.getD k 0) = x * 1000000000 ^ i * val (b.take k) + 1000000000 ^ (i + k) * (x * b.getD k 0) := by
    rw [Int.mul_add, Int.pow_add]
    congr 1
    simp only [Int.mul_assoc, Int.mul_comm, Int.mul_left_comm]
  rw [e2]
  rw [Int.mul_add] at e
  omega
theorem carry_step {o : List Int} {k : Nat} {carry t V : Int} (hl : k < o.length) (hv : val o + 1000000000 ^ k * carry = V) (ht : t = carry + o.getD k 0) :
    val (o.set k (t % 1000000000)) + 1000000000 ^ (k + 1) * (t / 1000000000) = V := by
  rw [val_set o _ hl, Int.pow_succ, Int.mul_assoc]
  have e : (1000000000 : Int) ^ k * (t % 1000000000 - o.getD k 0) + 1000000000 ^ k * (1000000000 * (t / 1000000000)) = 1000000000 ^ k * carry := by
    rw [<- Int.mul_add]; congr 1; omega
  omega
theorem mul_row {a b : List Int} {i : Nat} : val (a.take i) * val b + a.getD i 0 * 1000000000 ^ i * val b = val (a.take (i + 1)) * val b := by
  rw [val_take_succ, Int.add_mul]
  congr 2
  rw [Int.mul_comm]
theorem blk_get {w : World} {r : Nat} {o : List Int} (h : Blk w r T_int (o.map (Value.int .i64))) {i : Int} (h0 : 0 <= i) (h1 : i < o.length) : Loads P T_int ((⟨r, 0, none⟩ : Addr).add (i.toNat * 1)) (.int .i64 (o.getD i.toNat 0)) w := by
  rw [Nat.mul_one]
  refine h.load (by kernel_rfl) ?_
  rw [List.getElem?_map, List.getD_eq_getElem?_getD, List.getElem?_eq_getElem (by omega)]; rfl
theorem blk_set {w : World} {r : Nat} {o : List Int} (h : Blk w r T_int (o.map (Value.int .i64))) {i : Int} (h0 : 0 <= i) (h1 : i < o.length) (x : Int) :
    ∃ w', Stores P T_int ((⟨r, 0, none⟩ : Addr).add (i.toNat * 1)) (.int .i64 x) w w' /\ Blk w' r T_int ((o.set i.toNat x).map (Value.int .i64)) /\ Chg [r] w w' /\ w'.heap.size = w.heap.size := by
  obtain ⟨w', h1, h2, h3, h4⟩ := h.store (P := P) (t := T_int) (k := i.toNat) (v := .int .i64 x) (by kernel_rfl) (by simp; omega) rfl
  exact ⟨w', by rw [Nat.mul_one]; exact h1, by rw [List.map_set]; exact h2, h3, h4⟩
theorem impl_natMul_c {w : World} {p q : Option Addr} {n c m d : Nat} {a b : List Int} (h : IntsR w p n c a) (k : IntsR w q m d b) (ha : Limbs a) (hb : Limbs b) (hn : n <= 1000000) (hm : m <= 1000000) :
    Ret P n_impl_natMul [.slice p n c, .slice q m d] w fun v w' => ∃ p' n' c', v = .slice p' n' c' /\ Own w' w.heap.size T_int 1 p' n' c' ((digs (val a * val b).toNat).map (Value.int .i64)) /\ Ext w w' := by
  refine impl_natMul_ret ?_
  unfold impl_natMul
  have hla := h.1; have hlb := k.1
  have vb0 := val_nonneg hb
  have vbl := val_lt hb
  rw [hlb] at vbl
  refine exW ⟨by omega, by omega⟩ (exW ⟨by omega, by omega⟩ ⟨⟨by omega, by omega, by omega⟩, fun r w1 hn1 => ?_⟩)
  have hN : ((n : Int) + (m : Int) + 1).toNat = n + m + 1 := by omega
  rw [hN] at hn1 ⊢
  have hre := hn1.r_eq
  refine ⟨fun i wr => ∃ (j : Nat) (o : List Int), i = j /\ j <= n /\ o.length = n + m + 1 /\ Blk wr r T_int (o.map (Value.int .i64)) /\ Ext w wr /\ Limbs o /\ val o = val (a.take j) * val b, fun i _ => n - i.toNat,
    ⟨0, List.replicate (n + m + 1) 0, rfl, by omega, by simp, ?_, hn1.ext, fun x hx => by simp at hx; omega, ?_⟩, ?_⟩
  · have := hn1.blk
    rw [zeroRow_int, Nat.mul_one] at this
    simpa using this
  · have z : ∀ s : Nat, val (List.replicate s 0) = 0 := fun s => by
      induction s with
      | zero => rfl
      | succ s ih => simp [List.replicate_succ, val, ih]
    rw [z]; simp [val]
  intro junk wr i ⟨j, o, hi, hjn, hol, hblk, hx, hlo, hv⟩
  subst hi
  refine ifD (fun hlt => ?_) (fun hge => ?_)
  · have A := ha.getD j
    obtain ⟨ad, rfl, hl⟩ := ints_at (h.ext hx) (i := (j : Int)) (by omega) hlt
    simp only [Int.toNat_natCast] at hl
    refine ⟨⟨by omega, by omega⟩, _, by simpa only [Int.toNat_natCast] using hl, fun carry t wr2 => ∃ (s : Nat) (o : List Int), t = s /\ s <= m /\ o.length = n + m + 1 /\ Blk wr2 r T_int (o.map (Value.int .i64)) /\ Ext w wr2 /\ Limbs o /\ 0 <= carry /\ carry < 1000000000 /\ val o + 1000000000 ^ (j + s) * carry = val (a.take j) * val b + a.getD j 0 * 1000000000 ^ j * val (b.take s), fun _ t _ => m - t.toNat,
      ⟨0, o, rfl, by omega, hol, hblk, hx, hlo, by omega, by omega, by simp [val, hv]⟩, ?_⟩
    intro junk1 wr2 carry t ⟨s, o2, hs, hsm, hol2, hblk2, hx2, hlo2, hc0, hc1, hv2⟩
    subst hs
    refine ifD (fun hlt2 => ?_) (fun hge2 => ?_)
    · have B := hb.getD s
      have M := mul_limb A B
      obtain ⟨ad2, rfl, hl2⟩ := ints_at (k.ext hx2) (i := (s : Int)) (by omega) hlt2
      have O := hlo2.getD (j + s)
      have es : ((j : Int) + (s : Int)).toNat = j + s := by omega
      refine ⟨⟨by omega, by omega⟩, _, hl2, exW ⟨by omega, by omega⟩ ⟨⟨by omega, by omega⟩, _, blk_get hblk2 (by omega) (by omega), ?_⟩⟩
      rw [es]
      simp only [Int.toNat_natCast]
      refine exW ⟨by omega, by omega⟩ (exW ⟨by omega, by omega⟩ (exW ⟨by omega, by omega⟩ (exW ⟨by omega, by omega⟩ ⟨by decide, _, rfl, ⟨by omega, by omega⟩, ?_⟩)))
      rw [tmod_limb (by omega)]
      obtain ⟨w3, hst, hb3, hch, hsz⟩ := blk_set hblk2 (i := (j : Int) + (s : Int)) (by omega) (by omega) ((carry + (o2.getD (j + s) 0 + a.getD j 0 * b.getD s 0)) % 1000000000)
      rw [es] at hb3
      refine ⟨w3, hst, by decide, ?_⟩
      rw [tdiv_limb (by omega)]
      refine exW ⟨by omega, by omega⟩ (exW ⟨by omega, by omega⟩ ⟨⟨s + 1, _, by omega, by omega, by simpa using hol2, hb3, hx2.chg hch (by simp; omega), hlo2.set (limb_mod _), by omega, by omega, mul_step (by omega) hv2 rfl⟩, ?_⟩)
      show m - ((s : Int) + 1).toNat < m - (s : Int).toNat
      omega
    · have hsm' : s = m := by omega
      subst hsm'
      rw [List.take_of_length_le (show b.length <= s by omega), mul_row] at hv2
      have V0 : 0 <= val (a.take (j + 1)) := val_nonneg (ha.take _)
      have VL : val (a.take (j + 1)) * val b < 1000000000 ^ (j + 1 + s) := by
        have h1 := val_lt (ha.take (j + 1))
        have h2 : (a.take (j + 1)).length = j + 1 := by simp; omega
        rw [h2] at h1
        rw [Int.pow_add]
        exact Int.lt_of_le_of_lt (Int.mul_le_mul_of_nonneg_left (Int.le_of_lt vbl) V0) (Int.mul_lt_mul_of_pos_right h1 (Int.pow_pos (by decide)))
      refine exW ⟨by omega, by omega⟩ ⟨fun carry t wr3 => ∃ (u : Nat) (o : List Int), t = u /\ u <= n + s + 1 /\ o.length = n + s + 1 /\ Blk wr3 r T_int (o.map (Value.int .i64)) /\ Ext w wr3 /\ Limbs o /\ 0 <= carry /\ carry < 1000000000 /\ val o + 1000000000 ^ u * carry = val (a.take (j + 1)) * val b, fun _ t _ => n + s + 2 - t.toNat,
        ⟨j + s, o2, by omega, by omega, hol2, hblk2, hx2, hlo2, hc0, hc1, hv2⟩, ?_⟩
      intro junk2 wr3 carry2 t2 ⟨u, o3, hu, hun, hol3, hblk3, hx3, hlo3, hd0, hd1, hv3⟩
      subst hu
      refine ifD (fun hpos => ?_) (fun hno => ?_)
      · have hu2 : u < j + 1 + s := by
          rcases Nat.lt_or_ge u (j + 1 + s) with h | h
          · exact h
          · exfalso
            have p1 : (1000000000 : Int) ^ (j + 1 + s) <= 1000000000 ^ u := by
              have : (1000000000 : Nat) ^ (j + 1 + s) <= 1000000000 ^ u := Nat.pow_le_pow_right (by decide) h
              have := Int.ofNat_le.2 this
              simpa using this
            have p2 : (1000000000 : Int) ^ u * 1 <= 1000000000 ^ u * carry2 := Int.mul_le_mul_of_nonneg_left (by omega) (Int.le_of_lt (Int.pow_pos (by decide)))
            have := val_nonneg hlo3
            omega
        have O := hlo3.getD u
        refine ⟨⟨by omega, by omega⟩, _, blk_get hblk3 (by omega) (by omega), ?_⟩
        simp only [Int.toNat_natCast]
        refine exW ⟨by omega, by omega⟩ ⟨by decide, _, rfl, ⟨by omega, by omega⟩, ?_⟩
        rw [tmod_limb (by omega)]
        obtain ⟨w4, hst, hb4, hch, hsz⟩ := blk_set hblk3 (i := (u : Int)) (by omega) (by omega) ((carry2 + o3.getD u 0) % 1000000000)
        simp only [Int.toNat_natCast] at hst hb4
        refine ⟨w4, hst, by decide, ?_⟩
        rw [tdiv_limb (by omega)]
        refine exW ⟨by omega, by omega⟩ (exW ⟨by omega, by omega⟩ ⟨⟨u + 1, _, by omega, by omega, by simpa using hol3, hb4, hx3.chg hch (by simp; omega), hlo3.set (limb_mod _), by omega, by omega, carry_step (by omega) hv3 rfl⟩, ?_⟩)
        show n + s + 2 - ((u : Int) + 1).toNat < n + s + 2 - (u : Int).toNat
        omega
      · have hc : carry2 = 0 := by omega
        subst hc
        refine exW ⟨by omega, by omega⟩ ⟨⟨j + 1, o3, by omega, by omega, hol3, hblk3, hx3, hlo3, by omega⟩, ?_⟩
        show n - ((j : Int) + 1).toNat < n - (j : Int).toNat
        omega
  · have hjn' : j = n := by omega
    subst hjn'
    rw [List.take_of_length_le (by omega)] at hv
    have hown : Own wr w.heap.size T_int 1 (some ⟨r, 0, none⟩) (j + m + 1) (j + m + 1) (o.map (Value.int .i64)) := Own.of_blk hblk (by omega) (by simp [hol]) (by simp only [maxLen]; omega)
    refine Ret.at (impl_trim_c hown.ints) ?_
    rintro v w4 ⟨hv4, hw4, hr4⟩
    subst hv4; subst hw4
    refine ⟨_, _, _, rfl, _, _, _, rfl, ?_, hx⟩
    have e := trimL_eq hlo
    rw [hv] at e
    rw [<- e]
    have hle := trimL_len o
    have := hown.sub (m := (trimL o).length) (by omega)
    rwa [<- trimL_prefix] at this
theorem spec_l02Mul_c {w : World} {p q : Option Addr} {n c m d : Nat} {a b : List Int} (h : IntsR w p n c a) (k : IntsR w q m d b) (ha : Limbs a) (hb : Limbs b) (hn : n <= 1000000) (hm : m <= 1000000) :
    Ret P n_spec_l02Mul [.slice p n c, .slice q m d] w fun v w' => ∃ p' n' c', v = .slice p' n' c' /\ Own w' w.heap.size T_int 1 p' n' c' ((digs (val a * val b).toNat).map (Value.int .i64)) /\ Ext w w' := by
  refine spec_l02Mul_ret ?_
  unfold spec_l02Mul
  have hla := h.1; have hlb := k.1
  have none0 : val a * val b = 0 -> ∃ p' n' c', Value.slice none 0 0 = .slice p' n' c' /\ Own w w.heap.size T_int 1 p' n' c' ((digs (val a * val b).toNat).map (Value.int .i64)) /\ Ext w w := fun e => by
    refine ⟨_, _, _, rfl, ?_, Ext.refl _⟩
    rw [e]
    simp only [Int.toNat_zero, digs_zero, List.map_nil]
    exact Own.nil _ _ _ _
  refine ifD (fun hz => ifT (none0 ?_)) (fun hna => ifD (fun hz => none0 ?_) (fun hnb => ?_))
  · rw [List.eq_nil_of_length_eq_zero (show a.length = 0 by omega)]; simp [val]
  · rw [List.eq_nil_of_length_eq_zero (show b.length = 0 by omega)]; simp [val]
  unfold spec_l02Mul_j0
  refine exW ⟨by omega, by omega⟩ ⟨⟨by omega, by omega, by omega⟩, fun r w1 hn1 => ?_⟩
  have hN : ((n : Int) + (m : Int)).toNat = n + m := by omega
  rw [hN] at hn1 ⊢
  have hre := hn1.r_eq
  refine ⟨fun i wr => ∃ (j : Nat) (o : List Int), i = j /\ j <= n /\ o.length = n + m /\ Blk wr r T_int (o.map (Value.int .i64)) /\ Ext w wr /\ Limbs o /\ (∀ z, j + m <= z -> o.getD z 0 = 0) /\ val o = val (a.take j) * val b, fun i _ => n - i.toNat,
    ⟨0, List.replicate (n + m) 0, rfl, by omega, by simp, ?_, hn1.ext, fun x hx => by simp at hx; omega, ?_, ?_⟩, ?_⟩
  · have := hn1.blk
    rw [zeroRow_int, Nat.mul_one] at this
    simpa using this
  · intro z hz
    by_cases hzl : z < n + m
    · simp [List.getD_eq_getElem?_getD, hzl]
    · exact getD_beyond (by simp; omega)
  · have z : ∀ s : Nat, val (List.replicate s 0) = 0 := fun s => by
      induction s with
      | zero => rfl
      | succ s ih => simp [List.replicate_succ, val, ih]
    rw [z]; simp [val]
  intro junk wr i ⟨j, o, hi, hjn, hol, hblk, hx, hlo, hzt, hv⟩
  subst hi
  refine ifD (fun hlt => ?_) (fun hge => ?_)
  · have A := ha.getD j
    obtain ⟨ad, rfl, hl⟩ := ints_at (h.ext hx) (i := (j : Int)) (by omega) hlt
    simp only [Int.toNat_natCast] at hl
    refine ⟨⟨by omega, by omega⟩, _, by simpa only [Int.toNat_natCast] using hl, fun carry t wr2 => ∃ (s : Nat) (o : List Int), t = s /\ s <= m /\ o.length = n + m /\ Blk wr2 r T_int (o.map (Value.int .i64)) /\ Ext w wr2 /\ Limbs o /\ (∀ z, j + m <= z -> o.getD z 0 = 0) /\ 0 <= carry /\ carry < 1000000000 /\ val o + 1000000000 ^ (j + s) * carry = val (a.take j) * val b + a.getD j 0 * 1000000000 ^ j * val (b.take s), fun _ t _ => m - t.toNat,
      ⟨0, o, rfl, by omega, hol, hblk, hx, hlo, hzt, by omega, by omega, by simp [val, hv]⟩, ?_⟩
    intro junk1 wr2 carry t ⟨s, o2, hs, hsm, hol2, hblk2, hx2, hlo2, hzt2, hc0, hc1, hv2⟩
    subst hs
    refine ifD (fun hlt2 => ?_) (fun hge2 => ?_)
    · have B := hb.getD s
      have M := mul_limb A B
      obtain ⟨ad2, rfl, hl2⟩ := ints_at (k.ext hx2) (i := (s : Int)) (by omega) hlt2
      have O := hlo2.getD (j + s)
      have es : ((j : Int) + (s : Int)).toNat = j + s := by omega
      refine ⟨⟨by omega, by omega⟩, _, hl2, exW ⟨by omega, by omega⟩ ⟨⟨by omega, by omega⟩, _, blk_get hblk2 (by omega) (by omega), ?_⟩⟩
      rw [es]
      simp only [Int.toNat_natCast]
      refine exW ⟨by omega, by omega⟩ (exW ⟨by omega, by omega⟩ (exW ⟨by omega, by omega⟩ (exW ⟨by omega, by omega⟩ ⟨by decide, _, rfl, ⟨by omega, by omega⟩, ?_⟩)))
      rw [tmod_limb (by omega)]
      obtain ⟨w3, hst, hb3, hch, hsz⟩ := blk_set hblk2 (i := (j : Int) + (s : Int)) (by omega) (by omega) ((o2.getD (j + s) 0 + a.getD j 0 * b.getD s 0 + carry) % 1000000000)
      rw [es] at hb3
      refine ⟨w3, hst, by decide, ?_⟩
      rw [tdiv_limb (by omega)]
      refine exW ⟨by omega, by omega⟩ (exW ⟨by omega, by omega⟩ ⟨⟨s + 1, _, by omega, by omega, by simpa using hol2, hb3, hx2.chg hch (by simp; omega), hlo2.set (limb_mod _), fun z hz => ?_, by omega, by omega, mul_step (by omega) hv2 (by omega)⟩, ?_⟩)
      · rw [List.getD_eq_getElem?_getD, List.getElem?_set_ne (by omega), <- List.getD_eq_getElem?_getD]
        exact hzt2 z hz
      · show m - ((s : Int) + 1).toNat < m - (s : Int).toNat
        omega
    · have hsm' : s = m := by omega
      subst hsm'
      rw [List.take_of_length_le (show b.length <= s by omega), mul_row] at hv2
      have es : ((j : Int) + (s : Int)).toNat = j + s := by omega
      refine exW ⟨by omega, by omega⟩ ⟨⟨by omega, by omega⟩, ?_⟩
      obtain ⟨w3, hst, hb3, hch, hsz⟩ := blk_set hblk2 (i := (j : Int) + (s : Int)) (by omega) (by omega) carry
      rw [es] at hb3
      refine ⟨w3, hst, exW ⟨by omega, by omega⟩ ⟨⟨j + 1, _, by omega, by omega, by simpa using hol2, hb3, hx2.chg hch (by simp; omega), hlo2.set ⟨hc0, hc1⟩, fun z hz => ?_, ?_⟩, ?_⟩⟩
      · rw [List.getD_eq_getElem?_getD, List.getElem?_set_ne (by omega), <- List.getD_eq_getElem?_getD]
        exact hzt2 z (by omega)
      · rw [val_set _ _ (by omega), hzt2 (j + s) (Nat.le_refl _), Int.sub_zero]
        exact hv2
      · show n - ((j : Int) + 1).toNat < n - (j : Int).toNat
        omega
  · have hjn' : j = n := by omega
    subst hjn'
    rw [List.take_of_length_le (by omega)] at hv
    have hown : Own wr w.heap.size T_int 1 (some ⟨r, 0, none⟩) (j + m) (j + m) (o.map (Value.int .i64)) := Own.of_blk hblk (by omega) (by simp [hol]) (by simp only [maxLen]; omega)
    refine Ret.at (spec_l02Trim_c hown.ints) ?_
    rintro v w4 ⟨hv4, hw4, hr4⟩
    subst hv4; subst hw4
    refine ⟨_, _, _, rfl, _, _, _, rfl, ?_, hx⟩
    have e := trimL_eq hlo
    rw [hv] at e
    rw [<- e]
    have hle := trimL_len o
    have := hown.sub (m := (trimL o).length) (by omega)
    rwa [<- trimL_prefix] at this
end Go.Proofs.YtbgokfhcgcoipaaGreat
namespace Go.Proofs.YtbgokfhcgcoipaaGreat
open Go Go.Proofs.YtbgokfhcgcoipaaGreat.Sx
theorem mid_get {w : World} {b off : Nat} {xs zs : List Value} {u : List Int} (h : Blk w b T_int (xs ++ u.map (Value.int .i64) ++ zs)) (hA : xs.length = off) {i : Nat} (hi : i < u.length) :
    Loads P T_int ((⟨b, off, none⟩ : Addr).add (i * 1)) (.int .i64 (u.getD i 0)) w := by
  rw [Nat.mul_one]
  refine (h.segMid hA).load (by kernel_rfl) ?_
  rw [List.getElem?_map, List.getD_eq_getElem?_getD, List.getElem?_eq_getElem hi]; rfl
theorem mid_set {w : World} {b off : Nat} {xs zs : List Value} {u : List Int} (h : Blk w b T_int (xs ++ u.map (Value.int .i64) ++ zs)) (hA : xs.length = off) {i : Nat} (hi : i < u.length) (x : Int) :
    ∃ w', Stores P T_int ((⟨b, off, none⟩ : Addr).add (i * 1)) (.int .i64 x) w w' /\ Blk w' b T_int (xs ++ (u.set i x).map (Value.int .i64) ++ zs) /\ Chg [b] w w' /\ w'.heap.size = w.heap.size := by
  obtain ⟨w', h1, h2, h3, h4⟩ := h.storeMid (P := P) (t := T_int) (v := .int .i64 x) hA i (by simpa using hi) (by kernel_rfl) rfl (a := (⟨b, off, none⟩ : Addr).add (i * 1)) (by rw [addr_add, Nat.mul_one])
  exact ⟨w', h1, by rw [List.map_set]; exact h2, h3, h4⟩
theorem getD_set_ne {u : List Int} {i j : Nat} (x : Int) (h : i ≠ j) : (u.set i x).getD j 0 = u.getD j 0 := by
  rw [List.getD_eq_getElem?_getD, List.getElem?_set_ne h, <- List.getD_eq_getElem?_getD]
theorem getD_set_eq {u : List Int} {i : Nat} (x : Int) (h : i < u.length) : (u.set i x).getD i 0 = x := by
  rw [List.getD_eq_getElem?_getD, List.getElem?_set_self h]; rfl
theorem take_set_succ {u : List Int} {j : Nat} {x : Int} (hj : j < u.length) (hl : Limbs (u.take j)) (hx : 0 <= x /\ x < 1000000000) : Limbs ((u.set j x).take (j + 1)) := by
  have e : (u.set j x).take (j + 1) = u.take j ++ [x] := by
    rw [List.take_add_one, List.getElem?_set_self hj, List.take_set_of_le (Nat.le_refl _)]; rfl
  rw [e]
  exact hl.snoc hx
theorem top_sign {X M y : Int} (h0 : 0 <= X) (h1 : X < M) : (X + M * y < 0 ↔ y < 0) := by
  constructor
  · intro h
    by_cases hy : y < 0
    · exact hy
    · have := Int.mul_nonneg (show 0 <= M by omega) (show 0 <= y by omega)
      omega
  · intro hy
    have := Int.mul_le_mul_of_nonneg_left (show y <= -1 by omega) (show 0 <= M by omega)
    omega
theorem val_top {u : List Int} {m : Nat} (h : u.length = m + 1) : val u = val (u.take m) + 1000000000 ^ m * u.getD m 0 := by
  have := val_take_succ u m
  rwa [List.take_of_length_le (by omega)] at this
theorem mul_same {a x y : Int} (h : x = y) : a * x = a * y := by rw [h]
theorem subt_step {u vs : List Int} {j : Nat} {x borrow y b' V : Int} (hj : j < u.length) (hv : val u = V - x * val (vs.take j) + 1000000000 ^ j * borrow)
    (hy : y = u.getD j 0 - vs.getD j 0 * x - borrow + 1000000000 * b') : val (u.set j y) = V - x * val (vs.take (j + 1)) + 1000000000 ^ (j + 1) * b' := by
  rw [val_set u _ hj, val_take_succ, Int.pow_succ, Int.mul_assoc]
  have e : (1000000000 : Int) ^ j * (y - u.getD j 0) = 1000000000 ^ j * (1000000000 * b') - 1000000000 ^ j * borrow - x * (1000000000 ^ j * vs.getD j 0) := by
    have : x * (1000000000 ^ j * vs.getD j 0) = (1000000000 : Int) ^ j * (vs.getD j 0 * x) := by
      rw [Int.mul_comm, Int.mul_assoc]
    rw [this, <- Int.mul_sub, <- Int.mul_sub]; exact mul_same (by omega)
  rw [Int.mul_add]
  omega
theorem impl_subTimes_c {w : World} {b off m c d : Nat} {q : Option Addr} {xs zs : List Value} {u vs : List Int} {x : Int} (h : Blk w b T_int (xs ++ u.map (Value.int .i64) ++ zs)) (hA : xs.length = off) (hu : u.length = m + 1)
    (k : IntsR w q m d vs) (hq : ∀ z, q.map (·.block) = some z -> z ≠ b) (hlu : Limbs u) (hlv : Limbs vs) (hx : 0 <= x /\ x < 1000000000) (hm : m <= 10000000) :
    Ret P n_impl_subTimes [.slice (some ⟨b, off, none⟩) (m + 1) c, .slice q m d, .int .i64 x] w fun v w' => ∃ u' : List Int, v = .bool (decide (val u' < 0)) /\ u'.length = m + 1 /\ Blk w' b T_int (xs ++ u'.map (Value.int .i64) ++ zs) /\ Chg [b] w w' /\ w'.heap.size = w.heap.size /\ Limbs (u'.take m) /\ val u' = val u - x * val vs := by
  refine impl_subTimes_ret ?_
  unfold impl_subTimes
  have hlv1 := k.1
  refine ⟨fun borrow t wr => ∃ (j : Nat) (o : List Int), t = j /\ j <= m /\ o.length = m + 1 /\ Blk wr b T_int (xs ++ o.map (Value.int .i64) ++ zs) /\ Chg [b] w wr /\ wr.heap.size = w.heap.size /\ Limbs (o.take j) /\ (∀ i, j <= i -> o.getD i 0 = u.getD i 0) /\ 0 <= borrow /\ borrow < 1000000000 /\ val o = val u - x * val (vs.take j) + 1000000000 ^ j * borrow, fun _ t _ => m - t.toNat,
    ⟨0, u, rfl, by omega, hu, h, Chg.refl _ _, rfl, by simp [Limbs], fun _ _ => rfl, by omega, by omega, by simp [val]⟩, ?_⟩
  intro junk wr borrow t ⟨j, o, ht, hjm, ho, hb, hch, hsz, hlo, hsame, hb0, hb1, hval⟩
  subst ht
  have kr := k.chg hch (fun z hz hm => hq z hz (by simpa using hm))
  refine ifD (fun hlt => ?_) (fun hge => ?_)
  · have U := hlu.getD j; have V := hlv.getD j
    have M := mul_limb V hx
    rw [<- hsame j (Nat.le_refl _)] at U
    obtain ⟨ad, rfl, hl⟩ := ints_at kr (i := (j : Int)) (by omega) hlt
    simp only [Int.toNat_natCast] at hl
    refine ⟨⟨by omega, by omega⟩, _, by simpa only [Int.toNat_natCast] using hl, ⟨by omega, by omega⟩, _, by simpa only [Int.toNat_natCast] using mid_get hb hA (show j < o.length by omega), exW ⟨by omega, by omega⟩ (exW ⟨by omega, by omega⟩ (exW ⟨by omega, by omega⟩ ?_))⟩
    have fin : ∀ y b' : Int, 0 <= y -> y < 1000000000 -> 0 <= b' -> b' < 1000000000 -> y = o.getD j 0 - vs.getD j 0 * x - borrow + 1000000000 * b' ->
        ∃ w', Stores P T_int ((⟨b, off, none⟩ : Addr).add (j * 1)) (.int .i64 y) wr w' /\ ∃ (i : Nat) (o : List Int), ((j : Int) + 1) = i /\ i <= m /\ o.length = m + 1 /\ Blk w' b T_int (xs ++ o.map (Value.int .i64) ++ zs) /\ Chg [b] w w' /\ w'.heap.size = w.heap.size /\ Limbs (o.take i) /\ (∀ z, i <= z -> o.getD z 0 = u.getD z 0) /\ 0 <= b' /\ b' < 1000000000 /\ val o = val u - x * val (vs.take i) + 1000000000 ^ i * b' := fun y b' y0 y1 b0 b1 e => by
      obtain ⟨w3, st, hb3, ch3, sz3⟩ := mid_set hb hA (show j < o.length by omega) y
      exact ⟨w3, st, j + 1, _, by omega, by omega, by simpa using ho, hb3, hch.trans ch3, by omega, take_set_succ (by omega) hlo ⟨y0, y1⟩, fun z hz => by rw [getD_set_ne _ (by omega)]; exact hsame z (by omega), b0, b1, subt_step (by omega) hval e⟩
    refine ifD (fun hneg => ?_) (fun hpos => ?_)
    · refine exW ⟨by omega, by omega⟩ (exW ⟨by omega, by omega⟩ (exW ⟨by omega, by omega⟩ ⟨by decide, ?_⟩))
      rw [tdiv_limb (by omega)]
      refine exW ⟨by omega, by omega⟩ (exW ⟨by omega, by omega⟩ (exW ⟨by omega, by omega⟩ ?_))
      unfold impl_subTimes_j0
      obtain ⟨w3, st, inv⟩ := fin (o.getD j 0 - vs.getD j 0 * x - borrow + (0 - (o.getD j 0 - vs.getD j 0 * x - borrow) + 1000000000 - 1) / 1000000000 * 1000000000) ((0 - (o.getD j 0 - vs.getD j 0 * x - borrow) + 1000000000 - 1) / 1000000000) (by omega) (by omega) (by omega) (by omega) (by omega)
      refine ⟨⟨by omega, by omega⟩, w3, by simpa only [Int.toNat_natCast] using st, exW ⟨by omega, by omega⟩ ⟨inv, ?_⟩⟩
      show m - ((j : Int) + 1).toNat < m - (j : Int).toNat
      omega
    · unfold impl_subTimes_j0
      obtain ⟨w3, st, inv⟩ := fin (o.getD j 0 - vs.getD j 0 * x - borrow) 0 (by omega) (by omega) (by omega) (by omega) (by omega)
      refine ⟨⟨by omega, by omega⟩, w3, by simpa only [Int.toNat_natCast] using st, exW ⟨by omega, by omega⟩ ⟨inv, ?_⟩⟩
      show m - ((j : Int) + 1).toNat < m - (j : Int).toNat
      omega
  · have hjm' : j = m := by omega
    subst hjm'
    rw [List.take_of_length_le (show vs.length <= j by omega)] at hval
    have U := hlu.getD j
    rw [<- hsame j (Nat.le_refl _)] at U
    refine ⟨⟨by omega, by omega⟩, _, mid_get hb hA (show j < o.length by omega), exW ⟨by omega, by omega⟩ ⟨⟨by omega, by omega⟩, ?_⟩⟩
    obtain ⟨w3, st, hb3, ch3, sz3⟩ := mid_set hb hA (show j < o.length by omega) (o.getD j 0 - borrow)
    have hl3 : (o.set j (o.getD j 0 - borrow)).length = j + 1 := by simpa using ho
    have ht3 : (o.set j (o.getD j 0 - borrow)).take j = o.take j := List.take_set_of_le (Nat.le_refl _)
    have g3 := getD_set_eq (o.getD j 0 - borrow) (show j < o.length by omega)
    have hL3 : Limbs ((o.set j (o.getD j 0 - borrow)).take j) := by rw [ht3]; exact hlo
    refine ⟨w3, st, ⟨by omega, by omega⟩, _, mid_get hb3 hA (show j < _ by omega), _, ?_, hl3, hb3, hch.trans ch3, by omega, hL3, ?_⟩
    · have hn := val_nonneg hL3; have hlt3 := val_lt hL3
      have hlen : ((o.set j (o.getD j 0 - borrow)).take j).length = j := by rw [List.length_take]; omega
      rw [hlen] at hlt3
      have := top_sign (y := (o.set j (o.getD j 0 - borrow)).getD j 0) hn hlt3
      rw [val_top hl3]
      simp only [this]
    · rw [val_set _ _ (by omega)]
      have : (1000000000 : Int) ^ j * (o.getD j 0 - borrow - o.getD j 0) = - (1000000000 ^ j * borrow) := by
        rw [<- Int.mul_neg]; exact mul_same (by omega)
      omega
theorem impl_addBack_c {w : World} {b off m c d : Nat} {q : Option Addr} {xs zs : List Value} {u vs : List Int} (h : Blk w b T_int (xs ++ u.map (Value.int .i64) ++ zs)) (hA : xs.length = off) (hu : u.length = m + 1)
    (k : IntsR w q m d vs) (hq : ∀ z, q.map (·.block) = some z -> z ≠ b) (hlu : Limbs (u.take m)) (hlv : Limbs vs) (ht : -1000000000 <= u.getD m 0 /\ u.getD m 0 <= 1000000000) (hm : m <= 10000000) :
    Ret P n_impl_addBack [.slice (some ⟨b, off, none⟩) (m + 1) c, .slice q m d] w fun v w' => ∃ u' : List Int, v = .tuple #[] /\ u'.length = m + 1 /\ Blk w' b T_int (xs ++ u'.map (Value.int .i64) ++ zs) /\ Chg [b] w w' /\ w'.heap.size = w.heap.size /\ Limbs (u'.take m) /\ val u' = val u + val vs := by
  refine impl_addBack_ret ?_
  unfold impl_addBack
  have hlv1 := k.1
  refine ⟨fun carry t wr => ∃ (j : Nat) (o : List Int), t = j /\ j <= m /\ o.length = m + 1 /\ Blk wr b T_int (xs ++ o.map (Value.int .i64) ++ zs) /\ Chg [b] w wr /\ wr.heap.size = w.heap.size /\ Limbs (o.take j) /\ (∀ i, j <= i -> o.getD i 0 = u.getD i 0) /\ 0 <= carry /\ carry <= 1 /\ val o + 1000000000 ^ j * carry = val u + val (vs.take j), fun _ t _ => m - t.toNat,
    ⟨0, u, rfl, by omega, hu, h, Chg.refl _ _, rfl, by simp [Limbs], fun _ _ => rfl, by omega, by omega, by simp [val]⟩, ?_⟩
  intro junk wr carry t ⟨j, o, htj, hjm, ho, hb, hch, hsz, hlo, hsame, hb0, hb1, hval⟩
  subst htj
  have kr := k.chg hch (fun z hz hm => hq z hz (by simpa using hm))
  refine ifD (fun hlt => ?_) (fun hge => ?_)
  · have V := hlv.getD j
    have U : 0 <= o.getD j 0 /\ o.getD j 0 < 1000000000 := by
      rw [hsame j (Nat.le_refl _)]
      have := hlu.getD j
      rwa [List.getD_eq_getElem?_getD, List.getElem?_take_of_lt (by omega), <- List.getD_eq_getElem?_getD] at this
    obtain ⟨ad, rfl, hl⟩ := ints_at kr (i := (j : Int)) (by omega) hlt
    simp only [Int.toNat_natCast] at hl
    refine ⟨⟨by omega, by omega⟩, _, by simpa only [Int.toNat_natCast] using hl, ⟨by omega, by omega⟩, _, by simpa only [Int.toNat_natCast] using mid_get hb hA (show j < o.length by omega), exW ⟨by omega, by omega⟩ (exW ⟨by omega, by omega⟩ ⟨by decide, _, rfl, ⟨by omega, by omega⟩, ?_⟩)⟩
    rw [tmod_limb (by omega)]
    obtain ⟨w3, st, hb3, ch3, sz3⟩ := mid_set hb hA (show j < o.length by omega) ((carry + (o.getD j 0 + vs.getD j 0)) % 1000000000)
    refine ⟨w3, by simpa only [Int.toNat_natCast] using st, by decide, ?_⟩
    rw [tdiv_limb (by omega)]
    refine exW ⟨by omega, by omega⟩ (exW ⟨by omega, by omega⟩ ⟨⟨j + 1, _, by omega, by omega, by simpa using ho, hb3, hch.trans ch3, by omega, take_set_succ (by omega) hlo (limb_mod _), fun z hz => by rw [getD_set_ne _ (by omega)]; exact hsame z (by omega), by omega, by omega, ?_⟩, ?_⟩)
    · rw [val_set o _ (by omega), val_take_succ, Int.pow_succ, Int.mul_assoc]
      have e : (1000000000 : Int) ^ j * ((carry + (o.getD j 0 + vs.getD j 0)) % 1000000000 - o.getD j 0) + 1000000000 ^ j * (1000000000 * ((carry + (o.getD j 0 + vs.getD j 0)) / 1000000000)) = 1000000000 ^ j * carry + 1000000000 ^ j * vs.getD j 0 := by
        rw [<- Int.mul_add, <- Int.mul_add]; exact mul_same (by omega)
      omega
    · show m - ((j : Int) + 1).toNat < m - (j : Int).toNat
      omega
  · have hjm' : j = m := by omega
    subst hjm'
    rw [List.take_of_length_le (show vs.length <= j by omega)] at hval
    have hs := hsame j (Nat.le_refl _)
    rw [<- hs] at ht
    refine ⟨⟨by omega, by omega⟩, _, mid_get hb hA (show j < o.length by omega), exW ⟨by omega, by omega⟩ ⟨⟨by omega, by omega⟩, ?_⟩⟩
    obtain ⟨w3, st, hb3, ch3, sz3⟩ := mid_set hb hA (show j < o.length by omega) (o.getD j 0 + carry)
    have ht3 : (o.set j (o.getD j 0 + carry)).take j = o.take j := List.take_set_of_le (Nat.le_refl _)
    refine ⟨w3, st, _, rfl, by simpa using ho, hb3, hch.trans ch3, by omega, by rw [ht3]; exact hlo, ?_⟩
    rw [val_set _ _ (by omega)]
    have : (1000000000 : Int) ^ j * (o.getD j 0 + carry - o.getD j 0) = 1000000000 ^ j * carry := mul_same (by omega)
    omega
theorem impl_natSmall_c {w : World} {p : Option Addr} {n c : Nat} {a : List Int} {d : Int} (h : IntsR w p n c a) (ha : Limbs a) (hd : 0 < d /\ d < 1000000000) (hn : n <= 10000000) :
    Ret P n_impl_natSmall [.slice p n c, .int .i64 d] w fun v w' => ∃ p' n' c', v = .tuple #[.slice p' n' c', .int .i64 (val a % d)] /\ Own w' w.heap.size T_int 1 p' n' c' ((digs (val a / d).toNat).map (Value.int .i64)) /\ Ext w w' := by
  refine impl_natSmall_ret ?_
  unfold impl_natSmall
  have hla := h.1
  refine ⟨⟨by omega, by omega, by omega⟩, fun r w1 hn1 => exW ⟨by omega, by omega⟩ ?_⟩
  have hre := hn1.r_eq
  have hb1 := hn1.blk
  rw [zeroRow_int, Nat.mul_one] at hb1
  refine ⟨fun rest i wr => ∃ (s : Nat) (o : List Int), i = (s : Int) - 1 /\ s <= n /\ o.length = n /\ Blk wr r T_int (o.map (Value.int .i64)) /\ Ext w wr /\ Limbs o /\ 0 <= rest /\ rest < d /\ val (a.drop s) = d * val (o.drop s) + rest, fun _ i _ => (i + 1).toNat,
    ⟨n, List.replicate n 0, rfl, by omega, by simp, by simpa using hb1, hn1.ext, fun x hx => by simp at hx; omega, by omega, by omega, by rw [List.drop_of_length_le (by omega), List.drop_of_length_le (by simp)]; simp [val]⟩, ?_⟩
  intro junk wr rest i ⟨s, o, hi, hsn, hol, hblk, hx, hlo, hr0, hr1, hv⟩
  subst hi
  refine ifD (fun hlt => ?_) (fun hge => ?_)
  · obtain ⟨t, rfl⟩ : ∃ t, s = t + 1 := ⟨s - 1, by omega⟩
    have A := ha.getD t
    have e1 : (((t + 1 : Nat) : Int) - 1).toNat = t := by omega
    obtain ⟨ad, rfl, hl⟩ := ints_at (h.ext hx) (i := ((t + 1 : Nat) : Int) - 1) (by omega) (by omega)
    rw [e1] at hl ⊢
    have T1 : rest * 1000000000 + a.getD t 0 < 1000000000 * d := by
      have : rest * 1000000000 <= (d - 1) * 1000000000 := Int.mul_le_mul_of_nonneg_right (by omega) (by omega)
      omega
    have T0 : 0 <= rest * 1000000000 + a.getD t 0 := by omega
    have Y0 : 0 <= (rest * 1000000000 + a.getD t 0) / d := Int.ediv_nonneg T0 (by omega)
    have Y1 : (rest * 1000000000 + a.getD t 0) / d < 1000000000 := Int.ediv_lt_of_lt_mul (by omega) T1
    have Z0 := Int.emod_nonneg (rest * 1000000000 + a.getD t 0) (show d ≠ 0 by omega)
    have Z1 := Int.emod_lt_of_pos (rest * 1000000000 + a.getD t 0) hd.1
    have Q := Int.mul_ediv_add_emod (rest * 1000000000 + a.getD t 0) d
    refine exW ⟨by omega, by omega⟩ ⟨⟨by omega, by omega⟩, _, hl, exW ⟨by omega, by omega⟩ ⟨by omega, ?_⟩⟩
    rw [Int.tdiv_eq_ediv_of_nonneg T0, Int.tmod_eq_emod_of_nonneg T0]
    obtain ⟨w3, st, hb3, ch3, sz3⟩ := blk_set hblk (i := (t : Int)) (by omega) (by omega) ((rest * 1000000000 + a.getD t 0) / d)
    simp only [Int.toNat_natCast] at st hb3
    refine exW ⟨by omega, by omega⟩ ⟨⟨by omega, by omega⟩, w3, st, by omega, _, rfl, exW ⟨by omega, by omega⟩ ⟨⟨t, _, by omega, by omega, by simpa using hol, hb3, hx.chg ch3 (by simp; omega), hlo.set ⟨Y0, Y1⟩, Z0, Z1, ?_⟩, ?_⟩⟩
    · have ea : a.drop t = a.getD t 0 :: a.drop (t + 1) := by
        rw [List.drop_eq_getElem_cons (by omega), List.getD_eq_getElem?_getD, List.getElem?_eq_getElem (by omega)]; rfl
      have eo : (o.set t ((rest * 1000000000 + a.getD t 0) / d)).drop t = (rest * 1000000000 + a.getD t 0) / d :: o.drop (t + 1) := by
        rw [List.drop_eq_getElem_cons (by simp; omega), List.getElem_set_self, List.drop_set_of_lt (by omega)]
      rw [ea, eo, val, val, hv, Int.mul_add d]
      have : d * (1000000000 * val (o.drop (t + 1))) = 1000000000 * (d * val (o.drop (t + 1))) := by rw [Int.mul_left_comm]
      omega
    · show (((t + 1 : Nat) : Int) - 1 - 1 + 1).toNat < (((t + 1 : Nat) : Int) - 1 + 1).toNat
      omega
  · have hs0 : s = 0 := by omega
    subst hs0
    simp only [List.drop_zero] at hv
    have hown : Own wr w.heap.size T_int 1 (some ⟨r, 0, none⟩) n n (o.map (Value.int .i64)) := Own.of_blk hblk (by omega) (by simp [hol]) (by simp only [maxLen]; omega)
    refine Ret.at (impl_trim_c hown.ints) ?_
    rintro v w4 ⟨hv4, hw4, hr4⟩
    subst hv4; subst hw4
    have e1 : val a / d = val o := by rw [hv, Int.mul_comm, Int.add_comm, Int.add_mul_ediv_right _ _ (by omega), Int.ediv_eq_zero_of_lt hr0 hr1, Int.zero_add]
    have e2 : val a % d = rest := by rw [hv, Int.mul_comm, Int.add_comm, Int.add_mul_emod_self_right, Int.emod_eq_of_lt hr0 hr1]
    refine ⟨_, _, _, rfl, _, _, _, by rw [e2], ?_, hx⟩
    rw [e1, <- trimL_eq hlo]
    have hle := trimL_len o
    have := hown.sub (m := (trimL o).length) (by omega)
    rwa [<- trimL_prefix] at this
end Go.Proofs.YtbgokfhcgcoipaaGreat
namespace Go.Proofs.YtbgokfhcgcoipaaGreat
open Go Go.Proofs.YtbgokfhcgcoipaaGreat.Sx
theorem pow_pos9 (k : Nat) : (0 : Int) < 1000000000 ^ k := Int.pow_pos (by decide)
theorem val_top2 {v : List Int} {m : Nat} (h : v.length = m + 2) : val v = val (v.take m) + 1000000000 ^ m * (1000000000 * v.getD (m + 1) 0 + v.getD m 0) := by
  rw [val_top (m := m + 1) h, val_take_succ, Int.pow_succ, Int.mul_add, Int.mul_assoc]
  omega
theorem val_top3 {u : List Int} {m : Nat} (h : u.length = m + 3) : val u = val (u.take m) + 1000000000 ^ m * ((u.getD (m + 2) 0 * 1000000000 + u.getD (m + 1) 0) * 1000000000 + u.getD m 0) := by
  have e2 : (1000000000 : Int) ^ (m + 2) = 1000000000 ^ m * 1000000000 * 1000000000 := by rw [show m + 2 = (m + 1) + 1 from rfl, Int.pow_succ, Int.pow_succ]
  have e1 : (1000000000 : Int) ^ (m + 1) = 1000000000 ^ m * 1000000000 := Int.pow_succ _ _
  rw [val_top (m := m + 2) h, val_take_succ, val_take_succ, e2, e1]
  have : (1000000000 : Int) ^ m * ((u.getD (m + 2) 0 * 1000000000 + u.getD (m + 1) 0) * 1000000000 + u.getD m 0) = 1000000000 ^ m * u.getD m 0 + 1000000000 ^ m * 1000000000 * u.getD (m + 1) 0 + 1000000000 ^ m * 1000000000 * 1000000000 * u.getD (m + 2) 0 := by
    rw [Int.mul_assoc (1000000000 ^ m * 1000000000), Int.mul_assoc (1000000000 ^ m), Int.mul_assoc (1000000000 ^ m), <- Int.mul_add, <- Int.mul_add]
    exact mul_same (by omega)
  omega
theorem take_bounds {u : List Int} {m : Nat} (h : Limbs u) (hm : m <= u.length) : 0 <= val (u.take m) /\ val (u.take m) < 1000000000 ^ m := by
  have h1 := val_nonneg (h.take m); have h2 := val_lt (h.take m)
  have : (u.take m).length = m := by rw [List.length_take]; omega
  rw [this] at h2
  exact ⟨h1, h2⟩
theorem guess0 {M ul vl T top u2 v1 v2 q D V : Int} (hM : 0 < M) (hul : ul < M) (hvl : 0 <= vl) (hD : D = ul + M * T) (hV : V = vl + M * (1000000000 * v1 + v2)) (hT : T = top * 1000000000 + u2) (hu2 : u2 < 1000000000) (hv2 : 0 <= v2) (hq : 0 <= q) (h : top < (q + 1) * v1) : D < (q + 1) * V := by
  have h1 : (q + 1) * (1000000000 * v1) = 1000000000 * ((q + 1) * v1) := Int.mul_left_comm _ _ _
  have h2 : 0 <= (q + 1) * v2 := Int.mul_nonneg (by omega) hv2
  have h3 : T + 1 <= (q + 1) * (1000000000 * v1 + v2) := by rw [Int.mul_add]; omega
  have h4 : M * (T + 1) <= M * ((q + 1) * (1000000000 * v1 + v2)) := Int.mul_le_mul_of_nonneg_left h3 (by omega)
  have h5 : 0 <= (q + 1) * vl := Int.mul_nonneg (by omega) hvl
  rw [hV, Int.mul_add, Int.mul_left_comm (q + 1) M]
  rw [Int.mul_add] at h4
  omega
theorem guess1 {M ul vl T v12 q D V : Int} (hM : 0 < M) (hul : ul < M) (hvl : 0 <= vl) (hD : D = ul + M * T) (hV : V = vl + M * v12) (hq : 0 <= q) (h : T < q * v12) : D < q * V := by
  have h4 : M * (T + 1) <= M * (q * v12) := Int.mul_le_mul_of_nonneg_left (by omega) (by omega)
  have h5 : 0 <= q * vl := Int.mul_nonneg hq hvl
  rw [hV, Int.mul_add, Int.mul_left_comm q M]
  rw [Int.mul_add] at h4
  omega
theorem guess2 {M ul vl T v1 v2 q D V : Int} (hM : 0 < M) (hul : 0 <= ul) (hvl : 0 <= vl /\ vl < M) (hD : D = ul + M * T) (hV : V = vl + M * (1000000000 * v1 + v2)) (hv1 : 1 <= v1) (hv2 : 0 <= v2) (hq : 0 <= q /\ q < 1000000000) (h : q * (1000000000 * v1 + v2) <= T) : q * V <= D + V := by
  have h1 : q * vl <= q * M := Int.mul_le_mul_of_nonneg_left (by omega) hq.1
  have h2 : M * (q * (1000000000 * v1 + v2)) <= M * T := Int.mul_le_mul_of_nonneg_left h (by omega)
  have h3 : M * q <= M * (1000000000 * v1 + v2) := Int.mul_le_mul_of_nonneg_left (by omega) (by omega)
  rw [Int.mul_comm q M] at h1
  have e : q * V = q * vl + M * (q * (1000000000 * v1 + v2)) := by rw [hV, Int.mul_add, Int.mul_left_comm q M]
  omega
theorem impl_divStep_c {w : World} {b off m c d : Nat} {q : Option Addr} {xs zs : List Value} {u vs : List Int} (h : Blk w b T_int (xs ++ u.map (Value.int .i64) ++ zs)) (hA : xs.length = off) (hu : u.length = m + 1)
    (k : IntsR w q m d vs) (hq : ∀ z, q.map (·.block) = some z -> z ≠ b) (hlu : Limbs u) (hlv : Limbs vs) (htop : 1 <= vs.getD (m - 1) 0) (hm2 : 2 <= m) (hm : m <= 10000000) (hD : val u < 1000000000 * val vs) :
    Ret P n_impl_divStep [.slice (some ⟨b, off, none⟩) (m + 1) c, .slice q m d] w fun v w' => ∃ (x : Int) (u' : List Int), v = .int .i64 x /\ 0 <= x /\ x < 1000000000 /\ u'.length = m + 1 /\ Blk w' b T_int (xs ++ u'.map (Value.int .i64) ++ zs) /\ Chg [b] w w' /\ Limbs u' /\ val u' = val u - x * val vs /\ 0 <= val u' /\ val u' < val vs := by
  refine impl_divStep_ret ?_
  unfold impl_divStep
  have hvl := k.1
  obtain ⟨t, rfl⟩ : ∃ t, m = t + 2 := ⟨m - 2, by omega⟩
  have e1 : t + 2 - 1 = t + 1 := by omega
  rw [e1] at htop
  have U2 := hlu.getD (t + 2); have U1 := hlu.getD (t + 1); have U0 := hlu.getD t
  have V1 := hlv.getD (t + 1); have V0 := hlv.getD t
  have eu := val_top3 hu
  have ev := val_top2 hvl
  have bu := take_bounds (m := t) hlu (by omega); have bv := take_bounds (m := t) hlv (by omega)
  have hM := pow_pos9 t
  have hX := Ext.drew w
  have hbd := h.ext hX
  have kd := k.ext hX
  have i1 : ((t + 2 : Nat) : Int) - 1 = ((t + 1 : Nat) : Int) := by omega
  have i2 : ((t + 2 : Nat) : Int) - 2 = ((t : Nat) : Int) := by omega
  have lu : ∀ {W : World} {i : Nat}, Ext w W -> i < t + 3 -> Loads P T_int ((⟨b, off, none⟩ : Addr).add (i * 1)) (.int .i64 (u.getD i 0)) W := fun hW hi => mid_get (h.ext hW) hA (by omega)
  have lv : ∃ av, q = some av /\ ∀ {W : World} {i : Nat}, Ext w W -> i < t + 2 -> Loads P T_int (av.add (i * 1)) (.int .i64 (vs.getD i 0)) W := by
    obtain ⟨bq, oq, hqe, _⟩ := k.2.2.2 (by omega)
    refine ⟨⟨bq, oq, none⟩, hqe, fun {W i} hW hi => ?_⟩
    obtain ⟨ad, hqa, hl⟩ := ints_at (k.ext hW) (i := (i : Int)) (by omega) (by omega)
    rw [hqe] at hqa
    obtain rfl := Option.some.inj hqa
    simpa only [Int.toNat_natCast] using hl
  obtain ⟨av, rfl, lv⟩ := lv
  have T1 : u.getD (t + 2) 0 * 1000000000 + u.getD (t + 1) 0 < 1000000000000000000 := by omega
  have T0 : 0 <= u.getD (t + 2) 0 * 1000000000 + u.getD (t + 1) 0 := by omega
  generalize htp : u.getD (t + 2) 0 * 1000000000 + u.getD (t + 1) 0 = top at eu T1 T0
  have Q0 : 0 <= top / vs.getD (t + 1) 0 := Int.ediv_nonneg T0 (by omega)
  have Q1 : top / vs.getD (t + 1) 0 <= top := Int.ediv_le_self _ T0
  have Qm := Int.mul_ediv_add_emod top (vs.getD (t + 1) 0)
  have Qr := Int.emod_lt_of_pos top (show 0 < vs.getD (t + 1) 0 by omega)
  have Qr0 := Int.emod_nonneg top (show vs.getD (t + 1) 0 ≠ 0 by omega)
  refine ⟨⟨by omega, by omega⟩, _, fun W hW => lu (hX.trans hW) (by omega), exW ⟨by omega, by omega⟩ (exW ⟨by omega, by omega⟩ ?_)⟩
  rw [i1]
  refine ⟨⟨by omega, by omega⟩, _, fun W hW => by simpa only [Int.toNat_natCast] using lu (i := t + 1) (hX.trans hW) (by omega), ?_⟩
  rw [htp]
  refine exW ⟨by omega, by omega⟩ (exW ⟨by omega, by omega⟩ ⟨⟨by omega, by omega⟩, _, by simpa only [Int.toNat_natCast] using lv (i := t + 1) hX (by omega), by omega, ?_⟩)
  rw [Int.tdiv_eq_ediv_of_nonneg T0]
  refine exW ⟨by omega, by omega⟩ ⟨_, rfl, ?_⟩
  refine ⟨fun z wr => Ext w wr /\ 0 <= z /\ z < 1000000000 /\ z * vs.getD (t + 1) 0 <= top /\ val u < (z + 1) * val vs, fun z _ => z.toNat, ⟨hX, ?_, ?_, ?_, ?_⟩, ?_⟩
  · split <;> omega
  · split <;> omega
  · have : ∀ z, z <= top / vs.getD (t + 1) 0 -> z * vs.getD (t + 1) 0 <= top := fun z hz => by
      have := Int.mul_le_mul_of_nonneg_right hz (show 0 <= vs.getD (t + 1) 0 by omega)
      rw [Int.mul_comm (top / _)] at this
      omega
    apply this; split <;> omega
  · split
    · show val u < (999999999 + 1) * val vs
      omega
    · refine guess0 hM bu.2 bv.1 eu ev rfl U0.2 V0.1 Q0 ?_
      rw [Int.add_mul, Int.mul_comm (top / _)]
      omega
  intro junk wr z ⟨hx, hz0, hz1, hzt, hzD⟩
  have fin : ∀ W, Ext w W -> z * val vs <= val u + val vs -> Ret P n_impl_subTimes [.slice (some ⟨b, off, none⟩) (t + 2 + 1) c, .slice (some av) (t + 2) d, .int .i64 z] W fun v w7 => ∃ bb, v = .bool bb /\ (bb = true -> ∃ t76, t76 = IntKind.wrap .i64 (z - 1) /\ Ret P n_impl_addBack [.slice (some ⟨b, off, none⟩) (t + 2 + 1) c, .slice (some av) (t + 2) d] w7 fun v2 w8 => v2 = .tuple #[] /\ ∃ (x : Int) (u' : List Int), Value.int .i64 t76 = .int .i64 x /\ 0 <= x /\ x < 1000000000 /\ u'.length = t + 2 + 1 /\ Blk w8 b T_int (xs ++ u'.map (Value.int .i64) ++ zs) /\ Chg [b] w w8 /\ Limbs u' /\ val u' = val u - x * val vs /\ 0 <= val u' /\ val u' < val vs) /\
      (bb = false -> ∃ (x : Int) (u' : List Int), Value.int .i64 z = .int .i64 x /\ 0 <= x /\ x < 1000000000 /\ u'.length = t + 2 + 1 /\ Blk w7 b T_int (xs ++ u'.map (Value.int .i64) ++ zs) /\ Chg [b] w w7 /\ Limbs u' /\ val u' = val u - x * val vs /\ 0 <= val u' /\ val u' < val vs) := by
    intro W hW hle
    refine (impl_subTimes_c (h.ext hW) hA hu (k.ext hW) hq hlu hlv ⟨hz0, hz1⟩ hm).mono ?_
    rintro v w7 ⟨u1, hv, hl1, hb1, ch1, sz1, hL1, hval1⟩
    have hvV := val_lt hlv
    rw [hvl] at hvV
    have hlen : (u1.take (t + 2)).length = t + 2 := by rw [List.length_take]; omega
    have lim : ∀ u2 : List Int, u2.length = t + 2 + 1 -> Limbs (u2.take (t + 2)) -> 0 <= val u2 -> val u2 < val vs -> Limbs u2 := fun u2 h1 h2 h3 h4 => by
      have a1 := val_nonneg h2; have a2 := val_lt h2
      have hl : (u2.take (t + 2)).length = t + 2 := by rw [List.length_take]; omega
      rw [hl] at a2
      have a3 := val_top h1
      have hp := pow_pos9 (t + 2)
      have b1 : ¬ u2.getD (t + 2) 0 < 0 := fun hn => by
        have := Int.mul_le_mul_of_nonneg_left (show u2.getD (t + 2) 0 <= -1 by omega) (Int.le_of_lt hp); omega
      have b2 : ¬ 0 < u2.getD (t + 2) 0 := fun hn => by
        have := Int.mul_le_mul_of_nonneg_left (show 1 <= u2.getD (t + 2) 0 by omega) (Int.le_of_lt hp); omega
      have e : u2 = u2.take (t + 2) ++ [u2.getD (t + 2) 0] := by
        conv => lhs; rw [<- List.take_of_length_le (show u2.length <= t + 2 + 1 by omega), List.take_add_one]
        rw [List.getElem?_eq_getElem (by omega), List.getD_eq_getElem?_getD, List.getElem?_eq_getElem (by omega)]; rfl
      rw [e]
      exact h2.snoc (by omega)
    rw [Int.add_mul] at hzD
    refine ⟨_, hv, fun hneg => exW ⟨by omega, by omega⟩ ?_, fun hpos => ?_⟩
    · have hneg := of_decide_eq_true hneg
      have hz1' : 1 <= z := by
        rcases Int.lt_or_le z 1 with h | h
        · have : z = 0 := by omega
          subst this
          have := val_nonneg hlu
          omega
        · exact h
      have a1 := val_nonneg hL1; have a2 := val_lt hL1
      rw [hlen] at a2
      have a3 := val_top hl1
      have hp := pow_pos9 (t + 2)
      have g : -1000000000 <= u1.getD (t + 2) 0 /\ u1.getD (t + 2) 0 <= 1000000000 := by
        constructor
        · rcases Int.lt_or_le (u1.getD (t + 2) 0) (-1000000000) with hn | hn
          · have := Int.mul_le_mul_of_nonneg_left (show u1.getD (t + 2) 0 <= -2 by omega) (Int.le_of_lt hp); omega
          · exact hn
        · rcases Int.lt_or_le 1000000000 (u1.getD (t + 2) 0) with hn | hn
          · have := Int.mul_le_mul_of_nonneg_left (show 0 <= u1.getD (t + 2) 0 by omega) (Int.le_of_lt hp); omega
          · exact hn
      refine (impl_addBack_c hb1 hA hl1 ((k.ext hW).chg ch1 (fun y hy hm => hq y hy (by simpa using hm))) hq hL1 hlv g hm).mono ?_
      rintro v w8 ⟨u2, hv2, hl2, hb2, ch2, sz2, hL2, hval2⟩
      have ev2 : val u2 = val u - (z - 1) * val vs := by rw [Int.sub_mul]; omega
      exact ⟨hv2, z - 1, u2, rfl, by omega, by omega, hl2, hb2, hW.toChg.trans (ch1.trans ch2), lim u2 hl2 hL2 (by omega) (by omega), ev2, by omega, by omega⟩
    · have hpos := of_decide_eq_false hpos
      exact ⟨z, u1, rfl, hz0, hz1, hl1, hb1, hW.toChg.trans ch1, lim u1 hl1 hL1 (by omega) (by omega), hval1, by omega, by omega⟩
  have hxd := hx.trans (Ext.drew wr)
  refine ifD (fun hpos => ?_) (fun hzero => ifF (ifF ?_))
  · have M0 := mul_limb V0 ⟨hz0, hz1⟩
    rw [Int.mul_comm] at M0
    have ZV : 0 <= z * vs.getD (t + 1) 0 := Int.mul_nonneg hz0 (by omega)
    refine exW ⟨by omega, by omega⟩ ?_
    rw [i2]
    refine ⟨⟨by omega, by omega⟩, _, fun W hW => by simpa only [Int.toNat_natCast] using lv (i := t + 1) (hxd.trans hW) (by omega), exW ⟨by omega, by omega⟩ (exW ⟨by omega, by omega⟩ (ifD (fun hr => ?_) (fun hr => ifF ?_)))⟩
    · refine exW ⟨by omega, by omega⟩ ⟨⟨by omega, by omega⟩, _, fun W hW => by simpa only [Int.toNat_natCast] using lv (i := t) (hxd.trans hW) (by omega), exW ⟨by omega, by omega⟩ (exW ⟨by omega, by omega⟩ ⟨⟨by omega, by omega⟩, _, fun W hW => by simpa only [Int.toNat_natCast] using lv (i := t + 1) (hxd.trans hW) (by omega), exW ⟨by omega, by omega⟩ (exW ⟨by omega, by omega⟩ (exW ⟨by omega, by omega⟩ (exW ⟨by omega, by omega⟩ ⟨⟨by omega, by omega⟩, _, fun W hW => by simpa only [Int.toNat_natCast] using lu (i := t) (hxd.trans hW) (by omega), exW ⟨by omega, by omega⟩ (ifD (fun hmore => ?_) (fun hdone => ?_))⟩)))⟩)⟩
      · refine exW ⟨by omega, by omega⟩ ⟨⟨hxd, by omega, by omega, ?_, ?_⟩, ?_⟩
        · rw [Int.sub_mul]; omega
        · have := guess1 (q := z) (T := top * 1000000000 + u.getD t 0) (v12 := 1000000000 * vs.getD (t + 1) 0 + vs.getD t 0) hM bu.2 bv.1 eu ev hz0 (by rw [Int.mul_add, Int.mul_left_comm]; omega)
          rwa [Int.sub_add_cancel]
        · show (z - 1).toNat < z.toNat
          omega
      · refine Ret.at (fin _ hxd (guess2 hM bu.1 bv eu ev (by omega) V0.1 ⟨hz0, hz1⟩ (by rw [Int.mul_add, Int.mul_left_comm]; omega))) ?_
        rintro v w7 ⟨bb, hv, h1, h2⟩
        refine ⟨bb, by rw [hv], fun hb => ?_, h2⟩
        obtain ⟨t76, ht, hr⟩ := h1 hb
        refine ⟨t76, ht, Ret.at hr ?_⟩
        rintro v2 w8 ⟨hv2, hf⟩
        exact ⟨by rw [hv2], hf⟩
    · refine Ret.at (fin _ hxd (guess2 hM bu.1 bv eu ev (by omega) V0.1 ⟨hz0, hz1⟩ (by rw [Int.mul_add, Int.mul_left_comm]; omega))) ?_
      rintro v w7 ⟨bb, hv, h1, h2⟩
      refine ⟨bb, by rw [hv], fun hb => ?_, h2⟩
      obtain ⟨t76, ht, hr⟩ := h1 hb
      refine ⟨t76, ht, Ret.at hr ?_⟩
      rintro v2 w8 ⟨hv2, hf⟩
      exact ⟨by rw [hv2], hf⟩
  · have hz : z = 0 := by omega
    subst hz
    refine Ret.at (fin _ hxd (by have := val_nonneg hlu; have := val_nonneg hlv; omega)) ?_
    rintro v w7 ⟨bb, hv, h1, h2⟩
    refine ⟨bb, by rw [hv], fun hb => ?_, h2⟩
    obtain ⟨t76, ht, hr⟩ := h1 hb
    refine ⟨t76, ht, Ret.at hr ?_⟩
    rintro v2 w8 ⟨hv2, hf⟩
    exact ⟨by rw [hv2], hf⟩
end Go.Proofs.YtbgokfhcgcoipaaGreat
namespace Go.Proofs.YtbgokfhcgcoipaaGreat
open Go Go.Proofs.YtbgokfhcgcoipaaGreat.Sx
def mkS (neg : Bool) (m : List Int) : List D0 := [.bool (neg && !m.isEmpty), .ints m]
def enc (z : Int) : List D0 := [.bool (decide (z < 0)), .ints (digs z.natAbs)]
def ival : List D0 -> Int
  | [.bool b, .ints z] => if b then - val z else val z
  | _ => 0
def icap (z : Int) : List D0 := mkS (decide (z < 0)) (capL (digs z.natAbs))
theorem isEmpty_digs {n : Nat} : (digs n).isEmpty = decide (n = 0) := by
  cases h : (digs n) with
  | nil => simp [digs_nil.1 h]
  | cons a r =>
    have : n ≠ 0 := fun e => by rw [digs_nil.2 e] at h; cases h
    simp [this]
theorem mkS_pos (n : Nat) : mkS false (digs n) = enc n := by
  simp [mkS, enc] <;> omega
theorem mkS_neg (n : Nat) : mkS true (digs n) = enc (-n) := by
  simp only [mkS, enc, isEmpty_digs, Bool.true_and, Int.natAbs_neg, Int.natAbs_natCast]
  by_cases h : n = 0
  · subst h; simp
  · simp [h]; omega
theorem enc_code (z : Int) : (enc z).map D0.code = [.bool, .ints] := rfl
theorem ival_enc (z : Int) : ival (enc z) = z := by
  simp only [ival, enc, val_digs]
  by_cases h : z < 0
  · simp [h]; omega
  · simp [h]; omega
theorem intOk_enc {d : List D0} (h : intOk d = true) : d = enc (ival d) /\ ∃ b z, d = [.bool b, .ints z] /\ Canon z /\ z.length <= 50 := by
  match d, h with
  | [.bool b, .ints z], h =>
    simp only [intOk, Bool.and_eq_true, natOk_spec, Bool.or_eq_true, Bool.not_eq_true'] at h
    obtain ⟨⟨hc, hl⟩, hb⟩ := h
    refine ⟨?_, b, z, rfl, hc, hl⟩
    have hv := val_nonneg hc.1
    have hd := digs_val hc
    cases b with
    | false =>
      simp only [ival, enc, Bool.false_eq_true, if_false]
      rw [show (val z).natAbs = (val z).toNat by omega, hd]
      have : ¬ val z < 0 := by omega
      simp [this]
    | true =>
      have hne : z ≠ [] := by
        rcases hb with hb | hb
        · cases hb
        · cases z with
          | nil => simp at hb
          | cons a r => simp
      have hp := canon_pos hc hne
      simp only [ival, enc, if_true]
      rw [show (-val z).natAbs = (val z).toNat by omega, hd]
      have : -val z < 0 := by omega
      simp [hp]
theorem Sx.Owns.int2 {w : World} {B : Nat} {b : Bool} {p : Option Addr} {n c : Nat} {z : List Int} (h : Own w B T_int 1 p n c (z.map (Value.int .i64))) : Owns w B [.bool b, .slice p n c] [.bool b, .ints z] (p.map (·.block)).toList :=
  (Owns.bool w B b).append (Owns.ints h)
theorem nodup_opt (p : Option Addr) : ((p.map (·.block)).toList : List Nat).Nodup := by cases p <;> simp
theorem len_bool {z : List Int} {n : Nat} (h : z.length = n) : decide ((0 : Int) < (n : Nat)) = !z.isEmpty := intOk_len (b := true) h
theorem impl_signed_c {w : World} {neg : Bool} {p : Option Addr} {n c : Nat} {z : List Int} (hl : z.length = n) : Ret P n_impl_signed [.bool neg, .slice p n c] w fun v w' => v = .agg ⟨[.bool (neg && !z.isEmpty), .slice p n c]⟩ /\ Ext w w' := by
  refine impl_signed_ret ?_
  unfold impl_signed
  intro r w1 hn
  refine ⟨fun e => ?_, fun e => ?_⟩
  · obtain ⟨w2, st, hb, y⟩ := hn.fill (P := P) (t := T_impl_Signed) (xs := [.bool (decide ((0 : Int) < (n : Nat))), .slice p n c]) (by simp [Value.oneCell']) (by kernel_rfl) rfl
    exact ⟨w2, st, _, _, _, _, hb.loadA0 (by kernel_rfl), by rw [len_bool hl, e]; rfl, y⟩
  · obtain ⟨w2, st, hb, y⟩ := hn.fill (P := P) (t := T_impl_Signed) (xs := [.bool false, .slice p n c]) (by simp [Value.oneCell']) (by kernel_rfl) rfl
    exact ⟨w2, st, _, _, _, _, hb.loadA0 (by kernel_rfl), by rw [e]; rfl, y⟩
end Go.Proofs.YtbgokfhcgcoipaaGreat
namespace Go.Proofs.YtbgokfhcgcoipaaGreat
open Go Go.Proofs.YtbgokfhcgcoipaaGreat.Sx
def iadd (d e : List D0) : List D0 := if intOk d && intOk e then icap (ival d + ival e) else enc 0
theorem enc0 : enc 0 = [.bool false, .ints []] := by simp [enc, digs_zero]
theorem icap_code (z : Int) : (icap z).map D0.code = [.bool, .ints] := rfl
theorem capL_canon {n : Nat} : Canon (capL (digs n)) /\ (capL (digs n)).length <= 50 := by
  unfold capL
  split
  · exact ⟨digs_canon n, by assumption⟩
  · exact ⟨⟨Limbs.nil, by simp⟩, by simp⟩
theorem icap_ok (z : Int) : intOk (icap z) = true := by
  have h := capL_canon (n := z.natAbs)
  simp only [icap, mkS, intOk, natOk_spec.2 h, Bool.true_and]
  cases decide (z < 0) <;> cases (capL (digs z.natAbs)) <;> simp
theorem enc0_ok : intOk (enc 0) = true := by rw [enc0]; rfl
theorem iadd_ok (d e : List D0) : intOk (iadd d e) = true := by
  unfold iadd
  split
  · exact icap_ok _
  · exact enc0_ok
theorem iadd_code (d e : List D0) : (iadd d e).map D0.code = [.bool, .ints] := by
  unfold iadd; split <;> rfl
theorem mkS_digs {neg : Bool} {m : Nat} {z : Int} (hm : m = z.natAbs) (hs : m ≠ 0 -> neg = decide (z < 0)) : mkS neg (capL (digs m)) = icap z := by
  subst hm
  by_cases h0 : z.natAbs = 0
  · have hz : z = 0 := by omega
    subst hz
    simp [icap, mkS, digs_zero, capL]
  · rw [hs h0]; rfl
end Go.Proofs.YtbgokfhcgcoipaaGreat
