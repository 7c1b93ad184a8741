/-
  Parts of the proof of fnBook_holds: CNatOf, CMul, CDec, CSpecDec, CPercentL, CTextN, CText, CBookText, CDigL, CDivA, CDivC, CRatB, CDecT, CCutL, COrdL, CBookD, CDraw, CMake, CCurD, CCurK, Mu, CChange, SxFlS, CBookPoI, CBookPoS, CBookPost, CBookOpI, CBookOpM, CBookOpS, CBookOpen, SxEx, GB, CBookMk, CMoneyOf, CTextNat, CJoin, LZ, CCutAt, CSame, Lay, CSortL, CCursL, CSort, CBookCurs, SxRow, SxOpen, CByR, GT.
  Conditions: none.
-/
import Derived.WalkKit
import Derived.Test.YtbgokfhcgcoipaaGreatDoorProg
import Derived.Shelf.Strings.Repeat
import Derived.Shelf.Strings.BuilderX
import Derived.Shelf.Strings.OnBuilder
import Derived.Lib.SmallJoins
import Derived.Lib.AppendIntMem
import Derived.Conc.MuLone
import Derived.KernelRfl
import Derived.Defers
import Derived.Lib.ConvBytes
import Derived.Shelf.Small.Strs
import Derived.Shelf.Lays
import Derived.Lib.SlicesCompact
import Derived.Shelf.Sort.Plain
import Derived.Shelf.Slices.CompactS
import Derived.Sort.OwnSorted
import Derived.ProofKit
import Derived.Deep.Slices
import Derived.Test.YtbgokfhcgcoipaaGreatDoorBk3
set_option linter.unusedVariables false
set_option linter.unusedSimpArgs false
namespace Go.ChangeShapes
end Go.ChangeShapes
namespace Go.RowKit
end Go.RowKit
namespace Go.Shelf
end Go.Shelf
namespace Go.Sort
end Go.Sort
namespace Go.WideShapes
end Go.WideShapes

namespace Go.Proofs.YtbgokfhcgcoipaaGreatDoor
open Go Go.Proofs.YtbgokfhcgcoipaaGreatDoor.Sx
theorem digs_split {o : List Int} {N n : Nat} (h : digs N = o ++ digs n) (hn : 0 < n) : digs N = (o ++ [((n % 1000000000 : Nat) : Int)]) ++ digs (n / 1000000000) := by
  rw [h, digs_pos (by omega)]; simp
def room (on : Nat) (n : Int) : Prop := (on = 0 /\ n < 1000000000000000000000000000) ∨ (on = 1 /\ n < 1000000000000000000) ∨ (on = 2 /\ n < 1000000000) ∨ (on = 3 /\ n < 1)
theorem room_next {on : Nat} {n : Int} (h : room on n) (h0 : 0 < n) : room (on + 1) (n / 1000000000) /\ on <= 2 := by
  unfold room at h ⊢
  omega
theorem spec_NatOf_c {w : World} {n : Int} (h0 : 0 <= n) (h1 : n <= 9223372036854775807) :
    Ret P n_spec_NatOf [.int .i64 n] w fun v w' => ∃ p' n' c', v = .slice p' n' c' /\ Own w' w.heap.size T_int 1 p' n' c' ((digs n.toNat).map (Value.int .i64)) /\ Ext w w' := by
  refine spec_NatOf_ret ?_
  unfold spec_NatOf
  intro r w1 hn1
  refine ⟨fun m p on c wr => ∃ o : List Int, 0 <= m /\ room on m /\ m <= n /\ Own wr w.heap.size T_int 1 p on c (o.map (Value.int .i64)) /\ Ext w wr /\ digs n.toNat = o ++ digs m.toNat, fun m _ _ _ _ => m.toNat,
    ⟨[], h0, by unfold room; omega, Int.le_refl _, Own.fresh hn1, hn1.ext, rfl⟩, ?_⟩
  intro junk wr m p on c ⟨o, hm0, hrm, hmn, hown, hx, hd⟩
  refine ifD (fun hpos => ?_) (fun hz => ?_)
  · obtain ⟨hr2, hon⟩ := room_next hrm hpos
    refine ⟨by decide, _, rfl, fun r1 w2 hn2 => ?_⟩
    rw [tmod_limb hm0] at hn2
    obtain ⟨p', c', w3, g1, g2, g3⟩ := Own.push hown hx.le hn2 (by omega)
    refine ⟨_, _, _, _, g1, by decide, ?_⟩
    rw [tdiv_limb hm0]
    refine exW ⟨by omega, by omega⟩ ⟨⟨_, by omega, hr2, by omega, g2, g3 w hx (Nat.le_refl _), ?_⟩, ?_⟩
    · have := digs_split hd (show 0 < m.toNat by omega)
      have e1 : ((m.toNat % 1000000000 : Nat) : Int) = m % 1000000000 := by omega
      have e2 : m.toNat / 1000000000 = (m / 1000000000).toNat := by omega
      rw [this, e1, e2]
    · show (m / 1000000000).toNat < m.toNat
      omega
  · have : m.toNat = 0 := by omega
    rw [this, digs_zero, List.append_nil] at hd
    exact ⟨_, _, _, rfl, by rw [hd]; exact hown, hx⟩
theorem impl_natOf_c {w : World} {n : Int} (h0 : 0 <= n) (h1 : n <= 18446744073709551615) :
    Ret P n_impl_natOf [.int .u64 n] w fun v w' => ∃ p' n' c', v = .slice p' n' c' /\ Own w' w.heap.size T_int 1 p' n' c' ((digs n.toNat).map (Value.int .i64)) /\ Ext w w' := by
  refine impl_natOf_ret ?_
  unfold impl_natOf
  intro r w1 hn1
  refine ⟨fun m p on c wr => ∃ o : List Int, 0 <= m /\ room on m /\ m <= n /\ Own wr w.heap.size T_int 1 p on c (o.map (Value.int .i64)) /\ Ext w wr /\ digs n.toNat = o ++ digs m.toNat, fun m _ _ _ _ => m.toNat,
    ⟨[], h0, by unfold room; omega, Int.le_refl _, Own.fresh hn1, hn1.ext, rfl⟩, ?_⟩
  intro junk wr m p on c ⟨o, hm0, hrm, hmn, hown, hx, hd⟩
  refine ifD (fun hpos => ?_) (fun hz => ?_)
  · obtain ⟨hr2, hon⟩ := room_next hrm hpos
    refine ⟨by decide, _, rfl, ?_⟩
    rw [tmod_limb hm0]
    refine exW ⟨by omega, by omega⟩ (fun r1 w2 hn2 => ?_)
    obtain ⟨p', c', w3, g1, g2, g3⟩ := Own.push hown hx.le hn2 (by omega)
    refine ⟨_, _, _, _, g1, by decide, ?_⟩
    rw [tdiv_limb hm0]
    have wu : IntKind.wrap .u64 (m / 1000000000) = m / 1000000000 := by
      simp only [IntKind.wrap, IntKind.bits, IntKind.signed]
      simp
      omega
    refine ⟨_, rfl, ?_⟩
    rw [wu]
    refine ⟨⟨_, by omega, hr2, by omega, g2, g3 w hx (Nat.le_refl _), ?_⟩, ?_⟩
    · have := digs_split hd (show 0 < m.toNat by omega)
      have e1 : ((m.toNat % 1000000000 : Nat) : Int) = m % 1000000000 := by omega
      have e2 : m.toNat / 1000000000 = (m / 1000000000).toNat := by omega
      rw [this, e1, e2]
    · show (m / 1000000000).toNat < m.toNat
      omega
  · have : m.toNat = 0 := by omega
    rw [this, digs_zero, List.append_nil] at hd
    exact ⟨_, _, _, rfl, by rw [hd]; exact hown, hx⟩
theorem digs_len3 {n : Nat} (h : n < 1000000000000000000000000000) : (digs n).length <= 3 := by
  by_cases h1 : n = 0
  · subst h1; simp [digs_zero]
  · rw [digs_pos h1]
    by_cases h2 : n / 1000000000 = 0
    · rw [h2, digs_zero]; simp
    · rw [digs_pos h2]
      by_cases h3 : n / 1000000000 / 1000000000 = 0
      · rw [h3, digs_zero]; simp
      · rw [digs_pos h3]
        have h4 : n / 1000000000 / 1000000000 / 1000000000 = 0 := by omega
        rw [h4, digs_zero]; simp
theorem icap_small {z : Int} (h : z.natAbs < 1000000000000000000000000000) : icap z = enc z := by
  have hl := digs_len3 h
  unfold icap capL
  rw [if_pos (by omega)]
  simp only [mkS, enc, isEmpty_digs]
  by_cases h0 : z < 0
  · have : z.natAbs ≠ 0 := by omega
    simp [h0]; omega
  · simp [h0]
theorem impl_IntOf_c {w : World} {n : Int} (h0 : -9223372036854775808 <= n) (h1 : n <= 9223372036854775807) :
    Ret P n_impl_IntOf [.int .i64 n] w fun v w' => ∃ vs' f, v = .agg ⟨vs'⟩ /\ Owns w' w.heap.size vs' (enc n) f /\ f.Nodup /\ Ext w w' := by
  refine impl_IntOf_ret ?_
  unfold impl_IntOf
  intro r w1 hn1
  have e1 := hn1.r_eq; have s1 := hn1.size
  have fin : ∀ (W : World) (p : Option Addr) (m c : Nat) (b : Bool), b = decide (n < 0) -> Own W w1.heap.size T_int 1 p m c ((digs n.natAbs).map (Value.int .i64)) -> Ext w1 W -> ∃ wv_2, Stores P T_impl_Signed ⟨r, 0, none⟩ (.agg #[(.bool b), (.slice p m c)]) W wv_2 /\
      ∃ (r0 : Bool) (r1_p : Option Addr) (r1_n : Nat) (r1_c : Nat), Loads P T_impl_Signed ⟨r, 0, none⟩ (.agg #[(.bool r0), (.slice r1_p r1_n r1_c)]) wv_2 /\ (fun (v : Value) (w' : World) => ∃ vs' f, v = .agg ⟨vs'⟩ /\ Owns w' w.heap.size vs' (enc n) f /\ f.Nodup /\ Ext w w') (.agg #[(.bool r0), (.slice r1_p r1_n r1_c)]) wv_2 := by
    intro W p m c b hb ho hW
    obtain ⟨w5, st, hb5, ch, sz⟩ := (hn1.blk.ext hW).storeA0 (P := P) (t := T_impl_Signed) (xs := [.bool b, .slice p m c]) (by kernel_rfl) rfl (by simp [Value.oneCell'])
    refine ⟨w5, st, _, _, _, _, hb5.loadA0 (by kernel_rfl), _, _, rfl, ?_, nodup_opt p, (hn1.ext.trans hW).chg ch (by simp; omega)⟩
    have := (Owns.int2 (b := b) ho).chg1 ch (by omega)
    rw [hb] at this
    rw [hb]
    exact this.mono (by omega)
  refine ifD (fun hneg => ?_) (fun hpos => ?_)
  · have w6 : IntKind.wrap .u64 n = n + 18446744073709551616 := by
      simp only [IntKind.wrap, IntKind.bits, IntKind.signed]
      simp
      omega
    have w7 : IntKind.wrap .u64 (0 - (n + 18446744073709551616)) = -n := by
      simp only [IntKind.wrap, IntKind.bits, IntKind.signed]
      simp
      omega
    refine ⟨_, rfl, _, rfl, ?_⟩
    rw [w6, w7]
    refine Ret.at (impl_natOf_c (by omega) (by omega)) ?_
    rintro v w2 ⟨p, m, c, hv, ho, y⟩
    subst hv
    rw [show (-n).toNat = n.natAbs by omega] at ho
    exact ⟨_, _, _, rfl, fin w2 p m c true (by simp [hneg]) ho y⟩
  · have w6 : IntKind.wrap .u64 n = n := by
      simp only [IntKind.wrap, IntKind.bits, IntKind.signed]
      simp
      omega
    refine ⟨_, rfl, ?_⟩
    rw [w6]
    refine Ret.at (impl_natOf_c (by omega) (by omega)) ?_
    rintro v w2 ⟨p, m, c, hv, ho, y⟩
    subst hv
    rw [show n.toNat = n.natAbs by omega] at ho
    exact ⟨_, _, _, rfl, fin w2 p m c false (by simp; omega) ho y⟩
theorem spec_IntOf_c {w : World} {n : Int} (h0 : -9223372036854775808 <= n) (h1 : n <= 9223372036854775807) :
    Ret P n_spec_IntOf [.int .i64 n] w fun v w' => ∃ vs' f, v = .agg ⟨vs'⟩ /\ Owns w' w.heap.size vs' (enc n) f /\ f.Nodup /\ Ext w w' := by
  refine spec_IntOf_ret ?_
  unfold spec_IntOf
  intro r w1 hn1
  have e1 := hn1.r_eq; have s1 := hn1.size
  have fin : ∀ (W : World) (neg : Bool) (p : Option Addr) (m c : Nat) (z : List Int), IntsR W p m c z -> Limbs z -> Ext w1 W -> (val z).toNat = n.natAbs -> ((val z).toNat ≠ 0 -> neg = decide (n < 0)) ->
      Calls P n_spec_l04Make ⟨[.bool neg, .slice p m c]⟩ W fun e_1 wv_7 => ∃ (t170 : Bool) (t171_p : Option Addr) (t171_n : Nat) (t171_c : Nat), e_1 = .returned (.agg #[(.bool t170), (.slice t171_p t171_n t171_c)]) /\
        ∃ wv_8, Stores P T_impl_Signed ⟨r, 0, none⟩ (.agg #[(.bool t170), (.slice t171_p t171_n t171_c)]) wv_7 wv_8 /\
        ∃ (r0 : Bool) (r1_p : Option Addr) (r1_n : Nat) (r1_c : Nat), Loads P T_impl_Signed ⟨r, 0, none⟩ (.agg #[(.bool r0), (.slice r1_p r1_n r1_c)]) wv_8 /\ (fun (v : Value) (w' : World) => ∃ vs' f, v = .agg ⟨vs'⟩ /\ Owns w' w.heap.size vs' (enc n) f /\ f.Nodup /\ Ext w w') (.agg #[(.bool r0), (.slice r1_p r1_n r1_c)]) wv_8 := by
    intro W neg p m c z hz hlz hW hm hs
    refine Ret.at (spec_l04Make_c hz hlz) ?_
    rintro v W2 ⟨b, q, qn, qc, hv, hbb, ho, y2⟩
    subst hv
    have hW0 := hW.le
    obtain ⟨W3, st, hb3, ch, sz⟩ := ((hn1.blk.ext hW).ext y2).storeA0 (P := P) (t := T_impl_Signed) (xs := [.bool b, .slice q qn qc]) (by kernel_rfl) rfl (by simp [Value.oneCell'])
    have ow2 : Owns W2 W.heap.size [.bool b, .slice q qn qc] (enc n) (q.map (·.block)).toList := by
      rw [<- icap_small (by omega), <- mkS_digs hm hs, hbb]; exact Owns.int2 ho
    exact ⟨_, _, _, _, rfl, W3, st, _, _, _, _, hb3.loadA0 (by kernel_rfl), _, _, rfl, (ow2.chg1 ch (by omega)).mono (by omega), nodup_opt q, ((hn1.ext.trans hW).trans y2).chg ch (by simp; omega)⟩
  refine ifD (fun hmin => ?_) (fun hnm => ifD (fun hneg => ?_) (fun hpos => ?_))
  · intro r1 w2 hn2
    refine fin w2 true _ 3 3 [854775808, 223372036, 9] ⟨rfl, Nat.le_refl _, by omega, fun _ => ⟨r1, 0, rfl, hn2.blk.seg⟩⟩ (fun x hx => by simp at hx; omega) hn2.ext ?_ ?_
    · simp [val]; omega
    · intro _; simp; omega
  · have w6 : IntKind.wrap .i64 (0 - n) = -n := by
      simp only [IntKind.wrap, IntKind.bits, IntKind.signed]
      simp
      omega
    refine ⟨_, rfl, ?_⟩
    rw [w6]
    refine Ret.at (spec_NatOf_c (by omega) (by omega)) ?_
    rintro v w2 ⟨p, m, c, hv, ho, y⟩
    subst hv
    refine ⟨_, _, _, rfl, fin w2 true p m c _ ho.ints (digs_limbs _) y ?_ ?_⟩
    · rw [val_digs]; omega
    · intro _; simp [hneg]
  · refine Ret.at (spec_NatOf_c (by omega) (by omega)) ?_
    rintro v w2 ⟨p, m, c, hv, ho, y⟩
    subst hv
    refine ⟨_, _, _, rfl, fin w2 false p m c _ ho.ints (digs_limbs _) y ?_ ?_⟩
    · rw [val_digs]; omega
    · intro _; simp; omega
end Go.Proofs.YtbgokfhcgcoipaaGreatDoor
namespace Go.Proofs.YtbgokfhcgcoipaaGreatDoor
open Go Go.Proofs.YtbgokfhcgcoipaaGreatDoor.Sx
theorem Limbs.set {l : List Int} {k : Nat} {x : Int} (h : Limbs l) (hx : 0 <= x /\ x < 1000000000) : Limbs (l.set k x) := fun y hy => by
  rcases List.mem_or_eq_of_mem_set hy with h1 | h1
  · exact h y h1
  · rw [h1]; exact hx
end Go.Proofs.YtbgokfhcgcoipaaGreatDoor
namespace Go.Proofs.YtbgokfhcgcoipaaGreatDoor
open Go Go.Proofs.YtbgokfhcgcoipaaGreatDoor.Sx
def decOk : List D0 -> Bool
  | [.bool b, .ints z, .int s] => intOk [.bool b, .ints z] && decide (z.length <= 6) && decide (0 <= s /\ s <= 30)
  | _ => false
theorem impl_isScale_c (s : Int) (w : World) : Ret P n_impl_isScale [.int .i64 s] w fun v w' => v = .bool (decide (0 <= s /\ s <= 30)) /\ w' = w := by
  refine impl_isScale_ret ?_
  unfold impl_isScale
  refine ifD (fun h => ⟨?_, rfl⟩) (fun h => ⟨?_, rfl⟩) <;> simp [h]
theorem impl_DecOk_c {w : World} {xs : List Value} {dx : List D0} (h : Reps w xs dx) (hc : dx.map D0.code = [.bool, .ints, .int]) :
    Ret P n_impl_DecOk [.agg ⟨xs⟩] w fun v w' => v = .bool (decOk dx) /\ Ext w w' := by
  obtain ⟨a0, a1p, a1n, a1c, a1z, a2, rfl, rfl, ha⟩ := open_Dec h hc
  refine impl_DecOk_ret ?_
  unfold impl_DecOk
  intro r w1 hn1
  have x := hn1.ext
  have hl := ha.1
  refine ⟨_, _, _, _, hn1.blk.loadAAt 0 [.bool a0, .slice a1p a1n a1c] rfl (by kernel_rfl) rfl, ?_⟩
  refine Ret.at (impl_IntOk_c (dx := [.bool a0, .ints a1z]) ⟨rfl, ⟨_, _, _, rfl, ha.ext x⟩, trivial⟩ rfl) ?_
  rintro v w2 ⟨hv, y⟩
  subst hv
  have x := x.trans y; have b := hn1.blk.ext y
  refine ⟨_, rfl, fun e => ⟨_, _, _, b.loadAt 1 rfl (by kernel_rfl) rfl, ifD (fun hle => ?_) (fun hgt => ⟨?_, x⟩)⟩, fun e => ifF ⟨?_, x⟩⟩
  · refine ⟨_, b.loadAt 2 rfl (by kernel_rfl) rfl, ?_⟩
    refine Ret.at (impl_isScale_c a2 w2) ?_
    rintro v w3 ⟨hv, hw⟩
    subst hv; subst hw
    exact ⟨_, rfl, by simp only [decOk, e, show decide (a1z.length <= 6) = true by simp; omega, Bool.true_and], x⟩
  · simp only [decOk, show decide (a1z.length <= 6) = false by simp; omega, Bool.and_false, Bool.false_and]
  · simp only [decOk, e, Bool.false_and]
end Go.Proofs.YtbgokfhcgcoipaaGreatDoor
namespace Go.Proofs.YtbgokfhcgcoipaaGreatDoor
open Go Go.Proofs.YtbgokfhcgcoipaaGreatDoor.Sx
theorem enc_ok {z : Int} (h : (digs z.natAbs).length <= 50) : intOk (enc z) = true := by rw [<- icap_fit h]; exact icap_ok z
end Go.Proofs.YtbgokfhcgcoipaaGreatDoor
namespace Go.Proofs.YtbgokfhcgcoipaaGreatDoor
open Go Go.Proofs.YtbgokfhcgcoipaaGreatDoor.Sx
theorem decOk_parts {b : Bool} {z : List Int} {s : Int} (h : decOk [.bool b, .ints z, .int s] = true) : intOk [.bool b, .ints z] = true /\ natOk z = true /\ Limbs z /\ z.length <= 6 /\ 0 <= s /\ s <= 30 := by
  simp only [decOk, Bool.and_eq_true, decide_eq_true_eq] at h
  obtain ⟨⟨h1, h2⟩, h3⟩ := h
  have h4 : natOk z = true := by
    have := h1
    simp only [intOk, Bool.and_eq_true] at this
    exact this.1
  exact ⟨h1, h4, (natOk_spec.1 h4).1.1, h2, h3⟩
end Go.Proofs.YtbgokfhcgcoipaaGreatDoor
namespace Go.Proofs.YtbgokfhcgcoipaaGreatDoor
open Go Go.Proofs.YtbgokfhcgcoipaaGreatDoor.Sx
def TabP (w : World) : Prop := Lib.TabIs P w "internal/strconv.uint64pow10" .u64 Lib.pow10Tab
theorem TabP.ext {w w' : World} (h : TabP w) (he : Ext w w') : TabP w' := Joins.tab_stays lays171.m17 h he (Nat.le_refl _)
theorem X105 : Go.Proofs.Builder.Extra P ren105 where
  sizeBuilder := by kernel_rfl
  liesBuilder := by kernel_rfl
  t5 := lays105.t5
  a5 := lays105.a5
  z5 := lays105.z5
  v5 := lays105.v5
  infoByte := by kernel_rfl
  cellsByte := by kernel_rfl
  sizeByte := by kernel_rfl
  neB5 := by decide
theorem ba_ext {a b : ByteArray} (h : a.data.toList = b.data.toList) : a = b := by
  obtain ⟨⟨x⟩⟩ := a; obtain ⟨⟨y⟩⟩ := b
  simp at h; subst h; rfl
theorem ba_size (a : ByteArray) : a.size = a.data.toList.length := rfl
theorem ba_empty_append (a : ByteArray) : ByteArray.empty ++ a = a := ba_ext (by simp)
theorem ba_append_empty (a : ByteArray) : a ++ ByteArray.empty = a := ba_ext (by simp)
def itxt (u : Nat) : ByteArray := ⟨(Lib.decDigits u).toArray⟩
theorem decDigits_small {u : Nat} (h : u < 10) : Lib.decDigits u = [UInt8.ofNat (48 + u)] := by rw [Lib.decDigits, dif_pos h]
theorem decDigits_big {u : Nat} (h : ¬ u < 10) : Lib.decDigits u = Lib.decDigits (u / 10) ++ [UInt8.ofNat (48 + u % 10)] := by rw [Lib.decDigits, dif_neg h]
theorem itxt_small {u : Nat} (h : u < 10) : itxt u = strOfNums [((48 + u : Nat) : Int)] := ba_ext (by rw [strOfNums_data, itxt, decDigits_small h]; rfl)
theorem itxt_big {u : Nat} (h : ¬ u < 10) : itxt u = itxt (u / 10) ++ strOfNums [((48 + u % 10 : Nat) : Int)] := ba_ext (by
  have e : (itxt u).data.toList = Lib.decDigits u := by simp [itxt]
  have e1 : (itxt (u / 10)).data.toList = Lib.decDigits (u / 10) := by simp [itxt]
  rw [e, decDigits_big h, ByteArray.data_append, Array.toList_append, e1, strOfNums_data]; rfl)
theorem itxt_lt : ∀ (k : Nat) {u : Nat}, u < 10 ^ (k + 1) -> (itxt u).size <= k + 1
  | 0, u, h => by rw [itxt_small (by simpa using h), strOfNums_size]; simp
  | k + 1, u, h => by
    by_cases h1 : u < 10
    · rw [itxt_small h1, strOfNums_size]; simp
    · have h2 : u / 10 < 10 ^ (k + 1) := by rw [Nat.pow_succ] at h; omega
      have := itxt_lt k h2
      rw [itxt_big h1, ByteArray.size_append, strOfNums_size]
      simp; omega
theorem itxt_limb {u : Nat} (h : u < 1000000000) : (itxt u).size <= 9 := itxt_lt 8 (by simpa using h)
theorem impl_IntText_c {w : World} {n : Int} (ht : TabP w) (h0 : 0 <= n) (h1 : n <= 9223372036854775807) : Ret P n_impl_IntText [.int .i64 n] w fun v w' => v = .string (itxt n.toNat) /\ Ext w w' := by
  refine impl_IntText_ret ?_
  unfold impl_IntText
  obtain ⟨u, rfl⟩ : ∃ u : Nat, n = u := ⟨n.toNat, by omega⟩
  refine (Any.strconv_Itoa lays171 (u : Int) (by omega) h1 w ht).mono ?_
  rintro e w' ⟨rfl, k, os, rfl⟩
  rw [Lib.itoa_nonneg]
  exact ⟨_, rfl, rfl, Lib.below_grow _ _ (Nat.le_refl _) _ _⟩
def zeros (k : Nat) : ByteArray := ⟨(List.replicate k (48 : UInt8)).toArray⟩
def padT (s : ByteArray) (n : Int) : ByteArray := if n <= (s.size : Nat) ∨ 2000 < n then s else zeros (n - (s.size : Nat)).toNat ++ s
theorem zeros_size (k : Nat) : (zeros k).size = k := by simp [zeros, ByteArray.size]
theorem padT_le {s : ByteArray} {n : Int} {k : Nat} (h1 : s.size <= k) (h2 : n <= k) : (padT s n).size <= k := by
  unfold padT
  split
  · exact h1
  · rw [ByteArray.size_append, zeros_size]; omega
theorem padT_ge {s : ByteArray} {n : Int} (h : n <= 2000) : n <= ((padT s n).size : Nat) := by
  unfold padT
  split
  · omega
  · rw [ByteArray.size_append, zeros_size]; omega
theorem repeat_zeros (c : Nat) : (⟨(Lib.repeatL (S [48]).data.toList c).toArray⟩ : ByteArray) = zeros c := by
  have : ∀ c, Lib.repeatL (S [48]).data.toList c = List.replicate c (48 : UInt8) := fun c => by
    induction c with
    | zero => rfl
    | succ c ih => rw [Lib.repeatL, ih]; rfl
  rw [this]; rfl
theorem impl_Pad_c {w : World} (s : ByteArray) (n : Int) (hs : s.size <= 4611686018427387904) (hn : -4611686018427387904 <= n) : Ret P n_impl_Pad [.string s, .int .i64 n] w fun v w' => v = .string (padT s n) /\ Ext w w' := by
  refine impl_Pad_ret ?_
  unfold impl_Pad
  refine ifD (fun h => ifT ⟨by rw [padT, if_pos (.inl h)], Ext.refl _⟩) (fun h => ifD (fun h2 => ⟨by rw [padT, if_pos (.inr h2)], Ext.refl _⟩) (fun h2 => ?_))
  refine exW ⟨by omega, by omega⟩ ?_
  obtain ⟨c, hc⟩ : ∃ c : Nat, n - (s.size : Nat) = c := ⟨(n - (s.size : Nat)).toNat, by omega⟩
  rw [hc]
  refine (Any.strings_Repeat lays105 X105 (S [48]) c w (by omega) (by show 1 * c <= 140737488355328; omega)).mono ?_
  rintro e w' ⟨rfl, hx⟩
  rw [repeat_zeros]
  refine ⟨_, rfl, ?_, _, rfl, ?_, hx⟩
  · rw [zeros_size]; omega
  · rw [padT, if_neg (by omega), hc]; rfl
def natR : List Int -> ByteArray
  | [] => ByteArray.empty
  | x :: r => padT (itxt x.toNat) 9 ++ natR r
def natT (l : List Int) : ByteArray := match l.reverse with
  | [] => S [48]
  | x :: r => itxt x.toNat ++ natR r
theorem limb_text {x : Int} (h : 0 <= x /\ x < 1000000000) : (itxt x.toNat).size <= 9 /\ (padT (itxt x.toNat) 9).size <= 9 :=
  have h1 := itxt_limb (u := x.toNat) (by omega)
  ⟨h1, padT_le h1 (by decide)⟩
theorem natR_size : ∀ {l : List Int}, Limbs l -> (natR l).size <= l.length * 9
  | [], _ => by simp [natR]
  | x :: r, h => by
    have h := Limbs.cons.1 h
    have h1 := natR_size h.2; have h2 := (limb_text h.1).2
    rw [natR, ByteArray.size_append, List.length_cons]
    omega
theorem natT_size {l : List Int} (h : Limbs l) : (natT l).size <= l.length * 9 + 1 := by
  unfold natT
  cases e : l.reverse with
  | nil => show 1 <= _; omega
  | cons x r =>
    have hl : l.length = r.length + 1 := by rw [<- List.length_reverse, e]; rfl
    have hh : Limbs (x :: r) := fun y hy => h y (by rw [<- List.mem_reverse, e]; exact hy)
    have hh := Limbs.cons.1 hh
    have h1 := natR_size hh.2; have h2 := (limb_text hh.1).1
    show (itxt x.toNat ++ natR r).size <= _
    rw [ByteArray.size_append, hl]; omega
theorem rev_take_succ {l : List Int} {t : Nat} (h : t < l.length) : (l.take (t + 1)).reverse = l.getD t 0 :: (l.take t).reverse := by
  rw [List.take_add_one, List.getElem?_eq_getElem h, List.getD_eq_getElem?_getD, List.getElem?_eq_getElem h]
  simp
theorem natT_top {l : List Int} {n : Nat} (h : l.length = n + 1) : natT l = itxt (l.getD n 0).toNat ++ natR (l.take n).reverse := by
  have := rev_take_succ (l := l) (t := n) (by omega)
  rw [List.take_of_length_le (by omega)] at this
  unfold natT
  rw [this]
theorem impl_natText_c {w : World} {p : Option Addr} {n c : Nat} {z : List Int} (h : IntsR w p n c z) (hlz : Limbs z) (hn : n <= 1000) (ht : TabP w) :
    Ret P n_impl_natText [.slice p n c] w fun v w' => v = .string (natT z) /\ Ext w w' := by
  refine impl_natText_ret ?_
  unfold impl_natText
  have hlen := h.1
  have XS := Ext.refl w
  refine ifD (fun h0 => ⟨?_, XS⟩) (fun h0 => ?_)
  · rw [List.eq_nil_of_length_eq_zero (show z.length = 0 by omega)]; rfl
  · skip
    obtain ⟨m, rfl⟩ : ∃ m, n = m + 1 := ⟨n - 1, by omega⟩
    have e1 : ((m + 1 : Nat) : Int) - 1 = (m : Int) := by omega
    have e2 : ((m + 1 : Nat) : Int) - 2 = (m : Int) - 1 := by omega
    rw [e1, e2]
    have T := hlz.getD m
    obtain ⟨ad, rfl, hl⟩ := ints_at (h.ext XS) (i := (m : Int)) (by omega) (by omega)
    simp only [Int.toNat_natCast] at hl
    refine exW ⟨by omega, by omega⟩ ⟨⟨by omega, by omega⟩, _, by simpa only [Int.toNat_natCast] using hl, ?_⟩
    refine Ret.at (impl_IntText_c (ht.ext XS) T.1 (by omega)) ?_
    rintro v w2 ⟨hv, y2⟩
    subst hv
    refine ⟨_, rfl, exW ⟨by omega, by omega⟩ ⟨fun text i wr => ∃ s : Nat, i = (s : Int) - 1 /\ s <= m /\ text.size <= (m - s) * 9 + 9 /\ natT z = text ++ natR (z.take s).reverse /\ Ext w wr, fun _ i _ => (i + 1).toNat,
      ⟨m, rfl, by omega, by have := (limb_text T).1; omega, natT_top hlen, XS.trans y2⟩, ?_⟩⟩
    intro junk wr text i ⟨s, hi, hs, hsz, htx, hx⟩
    subst hi
    refine ifD (fun hpos => ?_) (fun hend => ?_)
    · obtain ⟨t, rfl⟩ : ∃ t, s = t + 1 := ⟨s - 1, by omega⟩
      have e3 : ((t + 1 : Nat) : Int) - 1 = (t : Int) := by omega
      rw [e3]
      have A := hlz.getD t
      have L := limb_text A
      obtain ⟨ad, hp, hl⟩ := ints_at (h.ext hx) (i := (t : Int)) (by omega) (by omega)
      obtain rfl := Option.some.inj hp
      simp only [Int.toNat_natCast] at hl
      refine ⟨⟨by omega, by omega⟩, _, by simpa only [Int.toNat_natCast] using hl, ?_⟩
      refine Ret.at (impl_IntText_c (ht.ext hx) A.1 (by omega)) ?_
      rintro v w3 ⟨hv, y3⟩
      subst hv
      refine ⟨_, rfl, ?_⟩
      refine Ret.at (impl_Pad_c _ 9 (by omega) (by omega)) ?_
      rintro v w4 ⟨hv, y4⟩
      subst hv
      refine ⟨_, rfl, ?_, _, rfl, exW ⟨by omega, by omega⟩ ⟨⟨t, by omega, by omega, ?_, ?_, (hx.trans y3).trans y4⟩, ?_⟩⟩
      · have : (m - (t + 1)) * 9 <= m * 9 := Nat.mul_le_mul_right _ (by omega)
        omega
      · rw [ByteArray.size_append]
        have : m - t = (m - (t + 1)) + 1 := by omega
        rw [this]; omega
      · rw [htx, rev_take_succ (by omega), natR, ByteArray.append_assoc]
      · show ((t : Int) - 1 + 1).toNat < ((t : Int) + 1).toNat
        omega
    · have hs0 : s = 0 := by omega
      subst hs0
      refine ⟨?_, hx⟩
      rw [htx]
      simp [natR]
def dotT (t : ByteArray) (s : Int) : ByteArray := if 0 < s then (t.extract 0 (((t.size : Nat) : Int) - s).toNat ++ S [46]) ++ t.extract (((t.size : Nat) : Int) - s).toNat t.size else t
def decT : List D0 -> ByteArray
  | [.bool b, .ints z, .int s] => if decOk [.bool b, .ints z, .int s] then (if b then S [45] ++ dotT (padT (natT z) (s + 1)) s else dotT (padT (natT z) (s + 1)) s) else S []
  | _ => S []
theorem dotT_size (t : ByteArray) (s : Int) : (dotT t s).size <= t.size + 1 := by
  unfold dotT
  split
  · rw [ByteArray.size_append, ByteArray.size_append, ByteArray.size_extract, ByteArray.size_extract]
    show _ + 1 + _ <= _
    omega
  · omega
theorem decT_size (d : List D0) : (decT d).size <= 100 := by
  unfold decT
  split
  · rename_i b z s
    split
    · rename_i h
      obtain ⟨_, _, hz, hl, _, _⟩ := decOk_parts h
      have h1 := natT_size hz; have h3 := dotT_size (padT (natT z) (s + 1)) s
      have h2 : (padT (natT z) (s + 1)).size <= 60 := padT_le (by omega) (by omega)
      split
      · rw [ByteArray.size_append]
        show 1 + _ <= _
        omega
      · omega
    · show 0 <= _; omega
  · show 0 <= _; omega
theorem impl_DecText_c {w : World} {xs : List Value} {dx : List D0} (h : Reps w xs dx) (hc : dx.map D0.code = [.bool, .ints, .int]) (ht : TabP w) :
    Ret P n_impl_DecText [.agg ⟨xs⟩] w fun v w' => v = .string (decT dx) /\ Ext w w' := by
  have hr := h
  obtain ⟨a0, a1p, a1n, a1c, a1z, a2, rfl, rfl, ha⟩ := open_Dec h hc
  have hl := ha.1
  refine impl_DecText_ret ?_
  unfold impl_DecText
  intro r w1 hn1
  refine ⟨_, _, _, _, _, hn1.blk.loadA0 (by kernel_rfl), ?_⟩
  refine Ret.at (impl_DecOk_c (hr.ext hn1.ext) rfl) ?_
  rintro v w2 ⟨hv, y2⟩
  subst hv
  have X2 := hn1.ext.trans y2
  refine ⟨_, rfl, ifN (fun e => ⟨by simp only [decT, e, Bool.false_eq_true, if_false], X2⟩) (fun e => ?_)⟩
  obtain ⟨hio, hno, hz, hl6, hs0, hs1⟩ := decOk_parts e
  have D := Ext.drew w2
  have X3 := X2.trans D
  have b := hn1.blk.ext (y2.trans D)
  refine ⟨_, _, _, fun W hW => (b.ext hW).loadAt 1 rfl (by kernel_rfl) rfl, ?_⟩
  refine Ret.at (impl_natText_c (ha.ext X3) hz (by omega) (ht.ext X3)) ?_
  rintro v w4 ⟨hv, y4⟩
  subst hv
  have N1 := natT_size hz
  have N2 : a1z.length * 9 <= 6 * 9 := Nat.mul_le_mul_right _ hl6
  refine ⟨_, rfl, y4, _, fun W hW => (b.ext hW).loadAt 2 rfl (by kernel_rfl) rfl, exW ⟨by omega, by omega⟩ ?_⟩
  refine Ret.at (impl_Pad_c _ (a2 + 1) (by omega) (by omega)) ?_
  rintro v w5 ⟨hv, y5⟩
  subst hv
  have Y5 := y4.trans y5
  have N3 : (padT (natT a1z) (a2 + 1)).size <= 60 := padT_le (by omega) (by omega)
  have N4 := padT_ge (s := natT a1z) (n := a2 + 1) (by omega)
  have X5 := X3.trans Y5
  have b5 := b.ext Y5
  have fin : ∀ t W, Ext w5 W -> t.size <= 1000 -> t = dotT (padT (natT a1z) (a2 + 1)) a2 -> impl_DecText_j0 r t W fun v w' => v = .string (decT [.bool a0, .ints a1z, .int a2]) /\ Ext w w' := by
    intro t W hW hts ht
    unfold impl_DecText_j0
    refine ⟨_, (b5.ext hW).loadAt 0 rfl (by kernel_rfl) rfl, fun e0 => ?_, fun e0 => ?_⟩
    · refine ⟨?_, _, rfl, ?_⟩
      · show 1 + t.size <= 9223372036854775807
        omega
      unfold impl_DecText_j1
      refine ⟨?_, X5.trans hW⟩
      subst e0
      simp only [decT, e, if_true, ht]
    · unfold impl_DecText_j1
      refine ⟨?_, X5.trans hW⟩
      subst e0
      simp only [decT, e, if_true, ht, Bool.false_eq_true, if_false]
  refine ⟨_, rfl, _, b5.loadAt 2 rfl (by kernel_rfl) rfl, ifD (fun hpos => ?_) (fun hz0 => fin _ _ (Ext.refl _) (by omega) (by rw [dotT, if_neg hz0]))⟩
  refine ⟨_, b5.loadAt 2 rfl (by kernel_rfl) rfl, exW ⟨by omega, by omega⟩ ⟨⟨by omega, by omega⟩, ?_, _, rfl, ⟨by omega, by omega⟩, ?_, _, rfl, fin _ _ (Ext.drew _) ?_ (by rw [dotT, if_pos hpos])⟩⟩
  · rw [ByteArray.size_extract]
    show _ + 1 <= _
    omega
  · rw [ByteArray.size_append, ByteArray.size_extract, ByteArray.size_extract]
    show _ + 1 + _ <= _
    omega
  · rw [ByteArray.size_append, ByteArray.size_append, ByteArray.size_extract, ByteArray.size_extract]
    show _ + 1 + _ <= _
    omega
end Go.Proofs.YtbgokfhcgcoipaaGreatDoor
namespace Go.Proofs.YtbgokfhcgcoipaaGreatDoor
open Go Go.Proofs.YtbgokfhcgcoipaaGreatDoor.Sx
def curPlaces (c : ByteArray) : Int := (curFind implTab c).2.2.1
def moneyT : List D0 -> ByteArray
  | [.str c, .bool b, .ints z] => if moneyOk [.str c, .bool b, .ints z] then (c ++ S [32]) ++ decT [.bool b, .ints z, .int (curPlaces c)] else S []
  | _ => S []
theorem known_size {c : ByteArray} (h : curKnown c = true) : c.size <= 50 := by
  have h1 : (implTab.all fun r => decide (r.1.size <= 50)) = true := by decide +kernel
  unfold curKnown curIn at h
  rw [List.any_eq_true] at h
  obtain ⟨r, hr, he⟩ := h
  rw [List.all_eq_true] at h1
  have := of_decide_eq_true (h1 r hr)
  rwa [of_decide_eq_true he] at this
theorem moneyT_size (c : ByteArray) (b : Bool) (z : List Int) : (moneyT [.str c, .bool b, .ints z]).size <= 200 := by
  simp only [moneyT]
  split
  · rename_i h
    have := decT_size [.bool b, .ints z, .int (curPlaces c)]
    have hk : curKnown c = true := by
      simp only [moneyOk, Bool.and_eq_true] at h
      exact h.1.1
    have := known_size hk
    rw [ByteArray.size_append, ByteArray.size_append]
    show c.size + 1 + _ <= _
    omega
  · show 0 <= _; omega
theorem impl_CurPlaces_c {w : World} (c : ByteArray) (ht : Tab w) : Ret P n_impl_CurPlaces [.string c] w fun v w' => v = .int .i64 (curPlaces c) /\ Ext w w' := by
  refine impl_CurPlaces_ret ?_
  unfold impl_CurPlaces
  refine Ret.at (impl_currencyOf_c ht c) ?_
  rintro v w1 ⟨hv, y1⟩
  subst hv
  refine ⟨_, _, _, _, _, rfl, ?_⟩
  intro r w2 hn
  obtain ⟨w3, st, hb3, y3⟩ := hn.fill (P := P) (t := T_impl_currency) (xs := curCells (curFind implTab c)) (by simp [curCells, Value.oneCell']) (by kernel_rfl) rfl
  exact ⟨w3, st, _, hb3.loadAt 2 rfl (by kernel_rfl) rfl, rfl, y1.trans y3⟩
theorem impl_MoneyText_c {w : World} {xs : List Value} {c : ByteArray} {b : Bool} {z : List Int} (h : Reps w xs [.str c, .bool b, .ints z]) (ht : Tab w) (hp : TabP w) :
    Ret P n_impl_MoneyText [.agg ⟨xs⟩] w fun v w' => v = .string (moneyT [.str c, .bool b, .ints z]) /\ Ext w w' := by
  have hr := h
  obtain ⟨t0, a0, a1p, a1n, a1c, a1z, rfl, hd, ha⟩ := open_Money h rfl
  simp only [List.cons.injEq, D0.str.injEq, D0.bool.injEq, D0.ints.injEq, and_true] at hd
  obtain ⟨rfl, rfl, rfl⟩ := hd
  refine impl_MoneyText_ret ?_
  unfold impl_MoneyText
  intro r w1 hn1
  refine ⟨_, _, _, _, _, hn1.blk.loadA0 (by kernel_rfl), ?_⟩
  refine Ret.at (impl_MoneyOk_c (ht.ext hn1.ext) (hr.ext hn1.ext) rfl) ?_
  rintro v w2 ⟨hv, y2⟩
  subst hv
  have X2 := hn1.ext.trans y2
  refine ⟨_, rfl, ifN (fun e => ⟨by simp only [moneyT, e, Bool.false_eq_true, if_false], X2⟩) (fun e => ?_)⟩
  have hcs : c.size <= 50 := known_size (by simp only [moneyOk, Bool.and_eq_true] at e; exact e.1.1)
  have D := Ext.drew w2
  have X3 := X2.trans D
  have bk := hn1.blk.ext (y2.trans D)
  refine ⟨_, fun W hW => (bk.ext hW).loadAt 0 rfl (by kernel_rfl) rfl, ?_, _, rfl, _, _, _, _, fun W hW => (bk.ext hW).loadAAt 1 [.bool b, .slice a1p a1n a1c] rfl (by kernel_rfl) rfl, _, fun W hW => (bk.ext hW).loadAt 0 rfl (by kernel_rfl) rfl, ?_⟩
  · show c.size + 1 <= _
    omega
  refine Ret.at (impl_CurPlaces_c c (ht.ext X3)) ?_
  rintro v w4 ⟨hv, y4⟩
  subst hv
  refine ⟨_, rfl, y4, ?_⟩
  have X4 := X3.trans y4
  have hs : Reps w4 [.bool b, .slice a1p a1n a1c, .int .i64 (curPlaces c)] [.bool b, .ints z, .int (curPlaces c)] := ⟨rfl, ⟨_, _, _, rfl, ha.ext X4⟩, rfl, trivial⟩
  refine Ret.at (impl_DecText_c hs rfl (hp.ext X4)) ?_
  rintro v w5 ⟨hv, y5⟩
  subst hv
  have N := decT_size [.bool b, .ints z, .int (curPlaces c)]
  refine ⟨_, rfl, y5, ?_, _, rfl, ?_, X4.trans y5⟩
  · rw [ByteArray.size_append]
    show c.size + 1 + _ <= _
    omega
  · simp only [moneyT, e, if_true]
end Go.Proofs.YtbgokfhcgcoipaaGreatDoor
namespace Go.Proofs.YtbgokfhcgcoipaaGreatDoor
open Go Go.Proofs.YtbgokfhcgcoipaaGreatDoor.Sx
def acctT : List D0 -> ByteArray
  | [.str a, .str c, .bool b, .ints z] => ((a ++ S [32]) ++ moneyT [.str c, .bool b, .ints z]) ++ S [10]
  | _ => S []
def bookT (l : List (List D0)) : ByteArray := l.foldl (fun s x => s ++ acctT x) (S [])
theorem bookT_take {l : List (List D0)} {j : Nat} (hj : j < l.length) : bookT (l.take (j + 1)) = bookT (l.take j) ++ acctT (l[j]'hj) := by
  unfold bookT
  rw [List.take_add_one, List.getElem?_eq_getElem hj, List.foldl_append]; rfl
theorem impl_BookText_c {w : World} {p : Option Addr} {n c : Nat} {l : List (List D0)} (h : RowsR w 4 p n c l) (hc : ∀ x ∈ l, x.map D0.code = [.str, .str, .bool, .ints]) (hz : n <= 1048576) (hb : ∀ x ∈ l, bulks x <= 1048576) (ht : Tab w) (hp : TabP w) :
    Ret P n_impl_BookText [.agg ⟨[.slice p n c]⟩] w fun v w' => v = .string (bookT l) /\ Ext w w' := by
  have hln := h.1
  refine impl_BookText_ret ?_
  unfold impl_BookText
  intro r w1 hn1
  refine ⟨_, _, _, hn1.blk.loadAt 0 rfl (by kernel_rfl) rfl, fun s i wr => ∃ j : Nat, i = j /\ j <= n /\ s = bookT (l.take j) /\ s.size <= j * 1049000 /\ Ext w wr, fun _ i _ => n - i.toNat, ⟨0, rfl, by omega, rfl, by simp [Sx.S, ByteArray.size], hn1.ext⟩, ?_⟩
  intro junk wr s i ⟨j, hij, hj, hs, hsz, hx⟩
  subst hij
  refine ifD (fun hlt => ?_) (fun hge => ⟨?_, hx⟩)
  · have hjn : j < n := by omega
    have hjl : j < l.length := by omega
    obtain ⟨a, cs, hp', hk, hr, hl⟩ := (h.ext hx).at (P := P) (t := T_impl_Acct) (by kernel_rfl) hjn
    subst hp'
    have hrr := hr; have hcode := hc _ (List.getElem_mem hjl); have hbj := hb _ (List.getElem_mem hjl)
    obtain ⟨a0, a1, a2, a3p, a3n, a3c, a3z, rfl, hd, ha⟩ := open_Acct hr hcode
    have hnext := bookT_take hjl
    rw [hd] at hbj hnext
    simp only [bulks, D0.bulk, List.map_cons, List.map_nil, List.sum_cons, List.sum_nil] at hbj
    refine ⟨⟨by omega, by omega⟩, _, _, _, _, _, _, by simpa using hl, ?_⟩
    intro r2 w2 hn2
    obtain ⟨w3, st, hb3, y3⟩ := hn2.fill (P := P) (t := T_impl_Acct) hrr.cells1 (by kernel_rfl) rfl
    have D := Ext.drew w3
    have X3 := (hx.trans y3).trans D
    have bk := hb3.ext D
    have hm : Reps w3.drew [.string a1, .bool a2, .slice a3p a3n a3c] [.str a1, .bool a2, .ints a3z] := ⟨rfl, rfl, ⟨_, _, _, rfl, ha.ext (y3.trans D)⟩, trivial⟩
    have N := moneyT_size a1 a2 a3z
    have s1 : (S [32]).size = 1 := rfl
    have s2 : (S [10]).size = 1 := rfl
    have hj6 : j * 1049000 <= 1048576 * 1049000 := Nat.mul_le_mul_right _ (by omega)
    refine ⟨w3, st, _, fun W hW => (bk.ext hW).loadAt 0 rfl (by kernel_rfl) rfl, ?_, _, rfl, _, _, _, _, _, fun W hW => (bk.ext hW).loadAAt 1 [.string a1, .bool a2, .slice a3p a3n a3c] rfl (by kernel_rfl) rfl, ?_⟩
    · omega
    refine Ret.at (impl_MoneyText_c hm (ht.ext (X3)) (hp.ext (X3))) ?_
    rintro v w4 ⟨hv, y4⟩
    subst hv
    refine ⟨_, rfl, y4, ?_, _, rfl, ?_, _, rfl, ?_, _, rfl, exW ⟨by omega, by omega⟩ ⟨⟨j + 1, by omega, by omega, ?_, ?_, X3.trans y4⟩, ?_⟩⟩
    · simp only [ByteArray.size_append, s1]; omega
    · simp only [ByteArray.size_append, s1, s2]; omega
    · simp only [ByteArray.size_append, s1, s2]; omega
    · rw [hnext, hs]
      simp only [acctT, ByteArray.append_assoc]
    · simp only [ByteArray.size_append, s1, s2]
      omega
    · show n - ((j : Int) + 1).toNat < n - (j : Int).toNat
      omega
  · rw [hs, List.take_of_length_le (by omega)]
end Go.Proofs.YtbgokfhcgcoipaaGreatDoor
namespace Go.Proofs.YtbgokfhcgcoipaaGreatDoor
open Go Go.Proofs.YtbgokfhcgcoipaaGreatDoor.Sx
def isDig (c : UInt8) : Bool := decide (48 <= c.toNat) && decide (c.toNat <= 57)
theorem dig_le {c : UInt8} (h : isDig c = true) : 48 <= c.toNat /\ c.toNat <= 57 := by simpa [isDig] using h
theorem digB {u : Nat} (h : u < 10) : (UInt8.ofNat (48 + u)).toNat = 48 + u := by
  rw [UInt8.toNat_ofNat']; omega
theorem dec_ind {p : Nat -> Prop} (h1 : ∀ n, n < 10 -> p n) (h2 : ∀ n, ¬ n < 10 -> p (n / 10) -> p n) (n : Nat) : p n := by
  induction n using Nat.strongRecOn with
  | ind n ih =>
    by_cases h : n < 10
    · exact h1 n h
    · exact h2 n h (ih _ (by omega))
theorem isDigB {u : Nat} (h : u < 10) : isDig (UInt8.ofNat (48 + u)) = true := by
  simp only [isDig, Bool.and_eq_true, decide_eq_true_eq]; rw [digB h]; omega
theorem dec_all (n : Nat) : (Lib.decDigits n).all isDig = true := by
  induction n using dec_ind with
  | h1 n h => rw [decDigits_small h, List.all_cons, isDigB h]; rfl
  | h2 n h ih => rw [decDigits_big h, List.all_append, ih, List.all_cons, isDigB (by omega)]; rfl
def fx : Nat -> Nat -> List UInt8
  | 0, _ => []
  | k + 1, r => fx k (r / 10) ++ [UInt8.ofNat (48 + r % 10)]
theorem dec_fx {q : Nat} (hq : 0 < q) : ∀ (k : Nat) {r : Nat}, r < 10 ^ k -> Lib.decDigits (q * 10 ^ k + r) = Lib.decDigits q ++ fx k r
  | 0, r, h => by simp at h; subst h; simp [fx]
  | k + 1, r, h => by
    rw [Nat.pow_succ] at h ⊢
    have e : q * (10 ^ k * 10) + r = 10 * (q * 10 ^ k) + r := by rw [<- Nat.mul_assoc, Nat.mul_comm]
    have hp : 0 < q * 10 ^ k := Nat.mul_pos hq (Nat.pow_pos (by decide))
    rw [decDigits_big (by omega), e]
    have e1 : (10 * (q * 10 ^ k) + r) / 10 = q * 10 ^ k + r / 10 := by omega
    have e2 : (10 * (q * 10 ^ k) + r) % 10 = r % 10 := by omega
    rw [e1, e2, dec_fx hq k (by omega), fx, List.append_assoc]
theorem fx_pad : ∀ (k : Nat) {r : Nat}, r < 10 ^ (k + 1) -> fx (k + 1) r = List.replicate (k + 1 - (Lib.decDigits r).length) 48 ++ Lib.decDigits r
  | 0, r, h => by
    have h : r < 10 := by simpa using h
    rw [decDigits_small h, fx, fx, Nat.mod_eq_of_lt h]; rfl
  | k + 1, r, h => by
    have h' : r / 10 < 10 ^ (k + 1) := by rw [Nat.pow_succ] at h; omega
    rw [fx, fx_pad k h']
    by_cases hr : r < 10
    · have e : r / 10 = 0 := by omega
      rw [e, decDigits_small (show 0 < 10 by decide), decDigits_small hr, Nat.mod_eq_of_lt hr]
      show List.replicate k 48 ++ [48] ++ _ = List.replicate (k + 1) 48 ++ _
      rw [List.replicate_succ']
    · rw [decDigits_big hr, List.length_append, List.append_assoc]
      show _ = List.replicate (k + 1 + 1 - (_ + 1)) 48 ++ _
      rw [Nat.add_sub_add_right]
theorem padT_list {n : Nat} {k : Nat} (hk : k <= 2000) : (padT (itxt n) (k : Int)).data.toList = List.replicate (k - (Lib.decDigits n).length) 48 ++ Lib.decDigits n := by
  have hs : (itxt n).size = (Lib.decDigits n).length := by rw [ba_size, itxt]
  unfold padT
  split
  · rename_i h
    have : k - (Lib.decDigits n).length = 0 := by omega
    rw [this]; rfl
  · have e : ((k : Int) - ((itxt n).size : Nat)).toNat = k - (Lib.decDigits n).length := by omega
    rw [e]
    simp [zeros, itxt]
theorem natR_append : ∀ (a b : List Int), natR (a ++ b) = natR a ++ natR b
  | [], b => by rw [List.nil_append, natR, ba_empty_append]
  | x :: a, b => by rw [List.cons_append, natR, natR, natR_append a b, ByteArray.append_assoc]
theorem natT_digs (n : Nat) : natT (digs n) = itxt n := by
  induction n using Nat.strongRecOn with
  | ind n ih =>
    by_cases h0 : n = 0
    · subst h0
      rw [digs_zero, itxt_small (by decide)]
      rfl
    · rw [digs, dif_neg h0]
      by_cases hb : n < 1000000000
      · have e1 : n / 1000000000 = 0 := by omega
        have e2 : n % 1000000000 = n := by omega
        rw [e1, e2, digs_zero]
        show itxt (n : Int).toNat ++ natR [] = _
        rw [natR, ba_append_empty, Int.toNat_natCast]
      · have hq : 0 < n / 1000000000 := by omega
        have ihq := ih (n / 1000000000) (by omega)
        cases e : (digs (n / 1000000000)).reverse with
        | nil =>
          have : digs (n / 1000000000) = [] := by simpa using e
          have h2 := val_digs (n / 1000000000)
          rw [this] at h2
          simp [val] at h2
          omega
        | cons x r =>
          have e3 : natT (digs (n / 1000000000)) = itxt x.toNat ++ natR r := by unfold natT; rw [e]
          have e4 : natT (((n % 1000000000 : Nat) : Int) :: digs (n / 1000000000)) = itxt x.toNat ++ natR (r ++ [((n % 1000000000 : Nat) : Int)]) := by
            unfold natT
            rw [List.reverse_cons, e]; rfl
          rw [e4, natR_append, <- ByteArray.append_assoc, <- e3, ihq, natR, natR, ba_append_empty, Int.toNat_natCast]
          apply ba_ext
          have h9 : n % 1000000000 < 10 ^ (8 + 1) := by omega
          have hp := padT_list (n := n % 1000000000) (k := 9) (by decide)
          have hf := fx_pad 8 h9
          have hd := dec_fx hq 9 h9
          have en : n / 1000000000 * 10 ^ 9 + n % 1000000000 = n := by
            have : (10 : Nat) ^ 9 = 1000000000 := by decide
            rw [this]; omega
          rw [en] at hd
          rw [ByteArray.data_append, Array.toList_append]
          show Lib.decDigits (n / 1000000000) ++ (padT (itxt (n % 1000000000)) 9).data.toList = Lib.decDigits n
          rw [hd, hf]
          exact congrArg _ hp
end Go.Proofs.YtbgokfhcgcoipaaGreatDoor
namespace Go.Proofs.YtbgokfhcgcoipaaGreatDoor
open Go Go.Proofs.YtbgokfhcgcoipaaGreatDoor.Sx
theorem getD_set_ne {u : List Int} {i j : Nat} (x : Int) (h : i ≠ j) : (u.set i x).getD j 0 = u.getD j 0 := by
  rw [List.getD_eq_getElem?_getD, List.getElem?_set_ne h, <- List.getD_eq_getElem?_getD]
end Go.Proofs.YtbgokfhcgcoipaaGreatDoor
namespace Go.Proofs.YtbgokfhcgcoipaaGreatDoor
open Go Go.Proofs.YtbgokfhcgcoipaaGreatDoor.Sx
theorem Limbs.zeros (k : Nat) : Limbs (List.replicate k 0) := fun x hx => by simp at hx; omega
end Go.Proofs.YtbgokfhcgcoipaaGreatDoor
namespace Go.Proofs.YtbgokfhcgcoipaaGreatDoor
open Go Go.Proofs.YtbgokfhcgcoipaaGreatDoor.Sx
def FlSt (o : Obj) (w0 : World) (ss : List (Option Nat)) (w : World) : Prop := Ext w0 w /\ (ss = [none] ∨ ∃ r, ss = [some r] /\ w0.heap.size <= r /\ w.heap[r]? = some o)
theorem FlSt.ext {o : Obj} {w0 w w' : World} {ss : List (Option Nat)} (h : FlSt o w0 ss w) (y : Ext w w') : FlSt o w0 ss w' := by
  refine ⟨h.1.trans y, ?_⟩
  rcases h.2 with h2 | ⟨r, h2, h3, h4⟩
  · exact .inl h2
  · exact .inr ⟨r, h2, h3, (y.block r (Array.getElem?_eq_some_iff.1 h4).1).trans h4⟩
theorem FlSt.step {o : Obj} {w0 w w' : World} {ss ss' : List (Option Nat)} (h : FlSt o w0 ss w) (f : Fl [o] ss w ss' w') : FlSt o w0 ss' w' := by
  refine ⟨h.1.trans f.ext, ?_⟩
  have hl := f.len
  rcases h.2 with h2 | ⟨r, h2, h3, h4⟩
  · subst h2
    match ss', hl, f with
    | [none], _, _ => exact .inl rfl
    | [some r], _, f =>
      obtain ⟨a, b⟩ := f.got (k := 0) rfl rfl rfl
      exact .inr ⟨r, rfl, Nat.le_trans h.1.le a, b⟩
    | [], hl, _ => simp at hl
    | _ :: _ :: _, hl, _ => simp at hl
  · subst h2
    have hk := f.keeps (k := 0) (r := r) rfl
    match ss', hl, hk with
    | [x], _, hk =>
      simp at hk
      subst hk
      exact .inr ⟨r, rfl, h3, (f.ext.block r (Array.getElem?_eq_some_iff.1 h4).1).trans h4⟩
    | [], hl, _ => simp at hl
    | _ :: _ :: _, hl, _ => simp at hl
theorem FlSt.get {o : Obj} {w0 w : World} {ss : List (Option Nat)} {r : Nat} (h : FlSt o w0 ss w) (hr : ss[0]? = some (some r)) : w0.heap.size <= r /\ w.heap[r]? = some o := by
  rcases h.2 with h2 | ⟨r', h2, h3, h4⟩
  · subst h2; simp at hr
  · subst h2
    simp at hr
    subst hr
    exact ⟨h3, h4⟩
end Go.Proofs.YtbgokfhcgcoipaaGreatDoor
namespace Go.Proofs.YtbgokfhcgcoipaaGreatDoor
open Go Go.Proofs.YtbgokfhcgcoipaaGreatDoor.Sx
def body (D : List UInt8) (s : Nat) : List UInt8 := if s = 0 then D else D.take (D.length - s) ++ 46 :: D.drop (D.length - s)
end Go.Proofs.YtbgokfhcgcoipaaGreatDoor
namespace Go.Proofs.YtbgokfhcgcoipaaGreatDoor
open Go Go.Proofs.YtbgokfhcgcoipaaGreatDoor.Sx
def cuts (c : UInt8) (acc : List UInt8) : List UInt8 -> List (List UInt8)
  | [] => [acc]
  | x :: r => if x = c then acc :: cuts c [] r else cuts c (acc ++ [x]) r
theorem cuts_ne {c : UInt8} (l acc : List UInt8) : cuts c acc l ≠ [] := by
  induction l generalizing acc with
  | nil => simp [cuts]
  | cons x r ih => rw [cuts]; split <;> simp [ih]
theorem cuts_len {c : UInt8} : ∀ (l acc : List UInt8), (cuts c acc l).length = l.count c + 1
  | [], acc => rfl
  | x :: r, acc => by
    rw [cuts]
    by_cases h : x = c
    · rw [if_pos h, List.length_cons, cuts_len r, h, List.count_cons_self]
    · rw [if_neg h, cuts_len r, List.count_cons_of_ne h]
end Go.Proofs.YtbgokfhcgcoipaaGreatDoor
namespace Go.Proofs.YtbgokfhcgcoipaaGreatDoor
open Go Go.Proofs.YtbgokfhcgcoipaaGreatDoor.Sx
def bLess (a b : ByteArray) : Bool := Op.bytesLess a.toList b.toList
theorem bytes_irrefl : ∀ x : List UInt8, Op.bytesLess x x = false
  | [] => rfl
  | a :: x => by simp [Op.bytesLess, bytes_irrefl x]
theorem bytes_trans : ∀ x y z : List UInt8, Op.bytesLess x y = true -> Op.bytesLess y z = true -> Op.bytesLess x z = true
  | [], [], z, h, _ => by simp [Op.bytesLess] at h
  | [], _ :: _, [], _, h => by simp [Op.bytesLess] at h
  | [], _ :: _, _ :: _, _, _ => rfl
  | _ :: _, [], _, h, _ => by simp [Op.bytesLess] at h
  | _ :: _, _ :: _, [], _, h => by simp [Op.bytesLess] at h
  | a :: x, b :: y, c :: z, h, g => by
    simp only [Op.bytesLess, Bool.or_eq_true, decide_eq_true_eq, Bool.and_eq_true, beq_iff_eq] at h g ⊢
    rcases h with h | ⟨rfl, h⟩
    · rcases g with g | ⟨rfl, g⟩
      · exact .inl (UInt8.lt_trans h g)
      · exact .inl h
    · rcases g with g | ⟨rfl, g⟩
      · exact .inl g
      · exact .inr ⟨rfl, bytes_trans x y z h g⟩
theorem bytes_tri : ∀ x y : List UInt8, Op.bytesLess x y = false -> Op.bytesLess y x = false -> x = y
  | [], [], _, _ => rfl
  | [], _ :: _, h, _ => by simp [Op.bytesLess] at h
  | _ :: _, [], _, h => by simp [Op.bytesLess] at h
  | a :: x, b :: y, h, g => by
    simp only [Op.bytesLess, Bool.or_eq_false_iff, decide_eq_false_iff_not, Bool.and_eq_false_iff, beq_eq_false_iff_ne] at h g
    have hab : a = b := by
      have h1 := h.1
      have h2 := g.1
      rw [UInt8.not_lt] at h1 h2
      exact UInt8.le_antisymm h2 h1
    subst hab
    rcases h.2 with h2 | h2
    · exact absurd rfl h2
    · rcases g.2 with g2 | g2
      · exact absurd rfl g2
      · rw [bytes_tri x y h2 g2]
theorem bLess_irrefl (a : ByteArray) : bLess a a = false := bytes_irrefl _
theorem bLess_trans {a b c : ByteArray} (h : bLess a b = true) (g : bLess b c = true) : bLess a c = true := bytes_trans _ _ _ h g
theorem toList_inj {a b : ByteArray} (h : a.toList = b.toList) : a = b := by
  have h1 : ∀ x : ByteArray, x.toList = x.data.toList := fun x => by rw [ByteArray.toList_eq]
  rw [h1, h1] at h
  cases a; cases b
  congr 1
  exact Array.ext' h
theorem bLess_tri {a b : ByteArray} (h : bLess a b = false) (g : bLess b a = false) : a = b := toList_inj (bytes_tri _ _ h g)
theorem bLess_ne {a b : ByteArray} (h : bLess a b = true) : a ≠ b := fun e => by rw [e, bLess_irrefl] at h; cases h
def posOf : List (ByteArray × Int) -> ByteArray -> Nat
  | [], _ => 0
  | x :: r, c => if bLess x.1 c then posOf r c + 1 else 0
def sumAdd : List (ByteArray × Int) -> ByteArray -> Int -> List (ByteArray × Int)
  | [], c, u => [(c, u)]
  | x :: r, c, u => if bLess x.1 c then x :: sumAdd r c u else if x.1 = c then (x.1, x.2 + u) :: r else (c, u) :: x :: r
def Ordered (s : List (ByteArray × Int)) : Prop := s.Pairwise fun a b => bLess a.1 b.1 = true
def hasAt (s : List (ByteArray × Int)) (c : ByteArray) : Bool := match s[posOf s c]? with
  | some x => decide (x.1 = c)
  | none => false
theorem posOf_le : ∀ (s : List (ByteArray × Int)) (c : ByteArray), posOf s c <= s.length
  | [], _ => Nat.le_refl _
  | x :: r, c => by
    have := posOf_le r c
    unfold posOf
    split <;> simp; omega
theorem sumAdd_has : ∀ {s : List (ByteArray × Int)} {c : ByteArray} {u : Int}, hasAt s c = true -> ∃ v, s[posOf s c]? = some (c, v) /\ sumAdd s c u = s.set (posOf s c) (c, v + u)
  | [], c, u, h => by simp [hasAt] at h
  | x :: r, c, u, h => by
    unfold hasAt at h
    unfold posOf sumAdd
    unfold posOf at h
    by_cases hx : bLess x.1 c = true
    · simp only [hx, if_true, List.getElem?_cons_succ] at h
      obtain ⟨v, h1, h2⟩ := sumAdd_has (s := r) (c := c) (u := u) h
      exact ⟨v, by simp only [hx, if_true, List.getElem?_cons_succ]; exact h1, by simp only [hx, if_true, List.set_cons_succ, h2]⟩
    · simp only [hx, if_false, List.getElem?_cons_zero, decide_eq_true_eq, Bool.false_eq_true] at h
      exact ⟨x.2, by rw [if_neg hx]; simp [<- h], by rw [if_neg hx, if_neg hx, if_pos h, List.set_cons_zero, h]⟩
theorem sumAdd_new : ∀ {s : List (ByteArray × Int)} {c : ByteArray} {u : Int}, hasAt s c = false -> sumAdd s c u = s.take (posOf s c) ++ (c, u) :: s.drop (posOf s c)
  | [], c, u, _ => rfl
  | x :: r, c, u, h => by
    unfold hasAt at h
    unfold posOf sumAdd
    unfold posOf at h
    by_cases hx : bLess x.1 c = true
    · simp only [hx, if_true, List.getElem?_cons_succ] at h
      have := sumAdd_new (s := r) (c := c) (u := u) h
      simp only [hx, if_true, this, List.take_succ_cons, List.drop_succ_cons, List.cons_append]
    · simp only [hx, if_false, List.getElem?_cons_zero, decide_eq_false_iff_not, Bool.false_eq_true] at h
      simp only [hx, if_false, h, Bool.false_eq_true, List.take_zero, List.drop_zero, List.nil_append]
theorem sumAdd_fst : ∀ {s : List (ByteArray × Int)} {c : ByteArray} {u : Int} {x : ByteArray × Int}, x ∈ sumAdd s c u -> x.1 = c ∨ ∃ y ∈ s, y.1 = x.1
  | [], c, u, x, h => by simp [sumAdd] at h; exact .inl (by rw [h])
  | y :: r, c, u, x, h => by
    unfold sumAdd at h
    split at h
    · rcases List.mem_cons.1 h with h | h
      · exact .inr ⟨y, List.mem_cons_self, by rw [h]⟩
      · rcases sumAdd_fst h with h | ⟨z, hz, e⟩
        · exact .inl h
        · exact .inr ⟨z, List.mem_cons_of_mem _ hz, e⟩
    · split at h
      · rcases List.mem_cons.1 h with h | h
        · exact .inr ⟨y, List.mem_cons_self, by rw [h]⟩
        · exact .inr ⟨x, List.mem_cons_of_mem _ h, rfl⟩
      · rcases List.mem_cons.1 h with h | h
        · exact .inl (by rw [h])
        · exact .inr ⟨x, h, rfl⟩
theorem sumAdd_ordered : ∀ {s : List (ByteArray × Int)} {c : ByteArray} {u : Int}, Ordered s -> Ordered (sumAdd s c u)
  | [], c, u, _ => by simp [sumAdd, Ordered]
  | y :: r, c, u, h => by
    have hr := (List.pairwise_cons.1 h).2
    have hy := (List.pairwise_cons.1 h).1
    unfold sumAdd
    split
    · rename_i hlt
      refine List.pairwise_cons.2 ⟨fun x hx => ?_, sumAdd_ordered hr⟩
      rcases sumAdd_fst hx with e | ⟨z, hz, e⟩
      · rw [e]; exact hlt
      · rw [<- e]; exact hy z hz
    · rename_i hge
      split
      · exact List.pairwise_cons.2 ⟨fun x hx => hy x hx, hr⟩
      · rename_i hne
        have hcy : bLess c y.1 = true := by
          cases hcy : bLess c y.1 with
          | true => rfl
          | false => exact absurd (bLess_tri (by simpa using hge) hcy) hne
        refine List.pairwise_cons.2 ⟨fun x hx => ?_, h⟩
        rcases List.mem_cons.1 hx with hx | hx
        · rw [hx]; exact hcy
        · exact bLess_trans hcy (hy x hx)
theorem sumAdd_len (s : List (ByteArray × Int)) (c : ByteArray) (u : Int) : (sumAdd s c u).length <= s.length + 1 /\ posOf s c < (sumAdd s c u).length := by
  have hp := posOf_le s c
  cases h : hasAt s c with
  | true =>
    obtain ⟨v, h1, h2⟩ := sumAdd_has (u := u) h
    have := (List.getElem?_eq_some_iff.1 h1).1
    rw [h2, List.length_set]
    omega
  | false =>
    rw [sumAdd_new h]
    simp
    omega
end Go.Proofs.YtbgokfhcgcoipaaGreatDoor
namespace Go.Proofs.YtbgokfhcgcoipaaGreatDoor
open Go Go.Proofs.YtbgokfhcgcoipaaGreatDoor.Sx
abbrev B3 := ByteArray × ByteArray × Int
def bkR (x : B3) : List D0 := .str x.1 :: .str x.2.1 :: enc x.2.2
structure BkL (l : List B3) : Prop where
  ord : l.Pairwise fun x y => bLess x.1 y.1 = true
  row : ∀ x ∈ l, isWord x.1 = true /\ moneyOk (.str x.2.1 :: enc x.2.2) = true
  len : l.length <= 12
theorem bkR_code (l : List B3) : ∀ x ∈ l.map bkR, x.map D0.code = [.str, .str, .bool, .ints] := fun x hx => by
  obtain ⟨y, _, rfl⟩ := List.mem_map.1 hx
  rfl
theorem moneyOk_parts {c : ByteArray} {z : Int} (h : moneyOk (.str c :: enc z) = true) : curKnown c = true /\ (digs z.natAbs).length <= 4 := by
  have h2 : (curKnown c && intOk (enc z) && decide ((digs z.natAbs).length <= 4)) = true := h
  simp only [Bool.and_eq_true, decide_eq_true_eq] at h2
  exact ⟨h2.1.1, h2.2⟩
theorem money_midB {c : ByteArray} (hc : curKnown c = true) {z : Int} (h : z.natAbs < 1000000000000000000000000000000000000) : moneyOk (.str c :: enc z) = true := by
  have h4 : (digs z.natAbs).length <= 4 := digs_len 4 (by omega)
  have h5 : intOk (enc z) = true := enc_ok (by omega)
  show (curKnown c && intOk (enc z) && decide ((digs z.natAbs).length <= 4)) = true
  rw [hc, h5, decide_eq_true h4]; rfl
theorem word_size {s : ByteArray} (h : isWord s = true) : s.size <= 12 := by
  unfold isWord at h
  simp only [Bool.and_eq_true, decide_eq_true_eq] at h
  exact h.1.2
theorem BkL.bulk {l : List B3} (h : BkL l) : ∀ x ∈ l.map bkR, bulks x <= 1048576 := fun x hx => by
  obtain ⟨y, hy, rfl⟩ := List.mem_map.1 hx
  obtain ⟨r1, r2⟩ := h.row y hy
  obtain ⟨k1, k2⟩ := moneyOk_parts r2
  have s1 := word_size r1
  have s2 := known_size k1
  simp only [bkR, enc, bulks, D0.bulk, List.map_cons, List.map_nil, List.sum_cons, List.sum_nil]
  omega
theorem BkL.ok {l : List B3} (h : BkL l) : bookOk (l.map bkR) = true := by
  unfold bookOk
  rw [Bool.and_eq_true]
  refine ⟨decide_eq_true (by simpa using h.len), range_yes fun i hi => ?_⟩
  have hil : i < l.length := by simpa using hi
  unfold bookRowOk
  rw [getD_row hi, List.getElem_map, Bool.and_eq_true]
  obtain ⟨r1, r2⟩ := h.row _ (List.getElem_mem hil)
  refine ⟨?_, ?_⟩
  · show (isWord _ && moneyOk _) = true
    rw [r1, r2]; rfl
  · rcases Nat.eq_zero_or_pos i with h0 | h0
    · subst h0; simp
    · have hi1 : i - 1 < l.length := by omega
      rw [getD_row (show i - 1 < (l.map bkR).length by simpa using hi1), List.getElem_map]
      have := List.pairwise_iff_getElem.1 h.ord (i - 1) i hi1 hil (by omega)
      show (!(decide (0 < i) && !(bLess (l[i - 1]).1 (l[i]).1))) = true
      rw [this]; simp
theorem BkL.at {l : List B3} (h : BkL l) {j : Nat} (hj : j < l.length) : acctAt (l.map bkR) (l[j]).1 = j := by
  refine firstI_some (by simpa using hj) (by rw [List.getElem_map]; exact decide_eq_true rfl) fun i hi hij => ?_
  rw [List.getElem_map]
  exact decide_eq_false (bLess_ne (List.pairwise_iff_getElem.1 h.ord i j (by simpa using hi) hj hij))
theorem acct_none {l : List B3} {s : ByteArray} (h : ∀ x ∈ l, x.1 ≠ s) : acctAt (l.map bkR) s = -1 := by
  refine firstI_none fun i hi => ?_
  rw [List.getElem_map]
  exact decide_eq_false (h _ (List.getElem_mem (by simpa using hi)))
theorem BkL.rowAt {l : List B3} (h : BkL l) {j : Nat} (hj : j < l.length) : rowAt (l.map bkR) (l[j]).1 = bkR l[j] := by
  unfold Go.Proofs.YtbgokfhcgcoipaaGreatDoor.rowAt
  rw [h.at hj, Int.toNat_natCast, getD_row (by simpa using hj), List.getElem_map]
theorem BkL.bal {l : List B3} (h : BkL l) {j : Nat} (hj : j < l.length) : balOf (l.map bkR) (l[j]).1 = .str (l[j]).2.1 :: enc (l[j]).2.2 := by
  unfold balOf
  rw [h.at hj, if_neg (by omega), Int.toNat_natCast, getD_row (by simpa using hj), List.getElem_map]
  rfl
theorem addM_enc {c : ByteArray} {z v : Int} (h : moneyOk (.str c :: enc z) = true) (g : moneyOk (.str c :: enc v) = true) (k : moneyOk (.str c :: enc (z + v)) = true) : addM (.str c :: enc z) (.str c :: enc v) = (true, .str c :: enc (z + v)) := by
  show mres (moneyOk (.str c :: enc z) && (moneyOk (.str c :: enc v) && decide (c = c))) c (ival (enc z) + ival (enc v)) = _
  rw [h, g, decide_eq_true rfl, ival_enc, ival_enc]
  show (moneyOk (.str c :: enc (z + v)), moneyMk c (z + v)) = _
  unfold moneyMk
  rw [k]; rfl
theorem BkL.post {l : List B3} (h : BkL l) {j : Nat} (hj : j < l.length) {v : Int} (g : moneyOk (.str (l[j]).2.1 :: enc v) = true) (k : moneyOk (.str (l[j]).2.1 :: enc ((l[j]).2.2 + v)) = true) :
    postOk (l.map bkR) (l[j]).1 (.str (l[j]).2.1 :: enc v) = true /\ postT (l.map bkR) (l[j]).1 (.str (l[j]).2.1 :: enc v) = (l.set j ((l[j]).1, (l[j]).2.1, (l[j]).2.2 + v)).map bkR := by
  have r := (h.row _ (List.getElem_mem hj)).2
  have hr := h.rowAt hj
  have ha : addM ((Go.Proofs.YtbgokfhcgcoipaaGreatDoor.rowAt (l.map bkR) (l[j]).1).drop 1) (.str (l[j]).2.1 :: enc v) = (true, .str (l[j]).2.1 :: enc ((l[j]).2.2 + v)) := by
    rw [hr]; exact addM_enc r g k
  have hok : postOk (l.map bkR) (l[j]).1 (.str (l[j]).2.1 :: enc v) = true := by
    unfold postOk
    rw [h.ok, ha, h.at hj, decide_eq_true (by omega)]; rfl
  refine ⟨hok, ?_⟩
  unfold postT
  rw [if_pos hok]
  unfold postL
  rw [ha, hr, h.at hj, Int.toNat_natCast, List.map_set]
  rfl
theorem BkL.set {l : List B3} (h : BkL l) {j : Nat} (hj : j < l.length) {z : Int} (k : moneyOk (.str (l[j]).2.1 :: enc z) = true) : BkL (l.set j ((l[j]).1, (l[j]).2.1, z)) := by
  refine ⟨?_, fun x hx => ?_, by rw [List.length_set]; exact h.len⟩
  · rw [List.pairwise_iff_getElem]
    intro a b ha hb hab
    rw [List.length_set] at ha hb
    have := List.pairwise_iff_getElem.1 h.ord a b ha hb hab
    rw [List.getElem_set, List.getElem_set]
    split <;> rename_i e1
    · subst e1
      rw [if_neg (by omega)]; exact this
    · split
      · rename_i e2; subst e2; exact this
      · exact this
  · rcases List.mem_or_eq_of_mem_set hx with hx | hx
    · exact h.row x hx
    · subst hx
      exact ⟨(h.row _ (List.getElem_mem hj)).1, k⟩
theorem acAt_all : ∀ {l : List B3} {s : ByteArray}, (∀ x ∈ l, bLess x.1 s = true) -> acAt (l.map bkR) s = l.length
  | [], _, _ => rfl
  | x :: r, s, h => by
    have h0 : Op.bytesLess (strOf (bkR x)).toList s.toList = true := h x (List.mem_cons_self ..)
    show acAt (bkR x :: r.map bkR) s = _
    unfold acAt
    rw [if_pos h0, acAt_all fun y hy => h y (List.mem_cons_of_mem _ hy)]; rfl
theorem BkL.snoc {l : List B3} (h : BkL l) {s cur : ByteArray} {z : Int} (hs : ∀ x ∈ l, bLess x.1 s = true) (hw : isWord s = true) (hm : moneyOk (.str cur :: enc z) = true) (hl : l.length < 12) : BkL (l ++ [(s, cur, z)]) := by
  refine ⟨List.pairwise_append.2 ⟨h.ord, List.pairwise_singleton .., fun x hx y hy => ?_⟩, fun x hx => ?_, by rw [List.length_append]; show l.length + 1 <= 12; omega⟩
  · rw [List.mem_singleton.1 hy]; exact hs x hx
  · rcases List.mem_append.1 hx with hx | hx
    · exact h.row x hx
    · rw [List.mem_singleton.1 hx]; exact ⟨hw, hm⟩
theorem BkL.open {l : List B3} (h : BkL l) {s cur : ByteArray} (hs : ∀ x ∈ l, bLess x.1 s = true) (hw : isWord s = true) (hc : curKnown cur = true) (hl : l.length < 12) :
    openOk (l.map bkR) s cur = true /\ openT (l.map bkR) s cur = (l ++ [(s, cur, 0)]).map bkR := by
  have hL : openL (l.map bkR) s cur = (l ++ [(s, cur, 0)]).map bkR := by
    unfold openL
    rw [acAt_all hs, List.take_of_length_le (by rw [List.length_map]; omega), List.drop_eq_nil_of_le (by rw [List.length_map]; omega), List.map_append]
    show _ ++ [openRow s cur] = _ ++ [bkR (s, cur, 0)]
    unfold openRow bkR
    rw [enc0]
  have hok : openOk (l.map bkR) s cur = true := by
    unfold openOk
    rw [h.ok, acct_none (fun x hx => bLess_ne (hs x hx)), hL, (h.snoc hs hw (money_midB hc (by decide)) hl).ok]; rfl
  exact ⟨hok, by unfold openT; rw [if_pos hok, hL]⟩
theorem BkL.post_last {l : List B3} {s cur : ByteArray} (h : BkL (l ++ [(s, cur, 0)])) {v : Int} (hv : moneyOk (.str cur :: enc v) = true) :
    postOk ((l ++ [(s, cur, 0)]).map bkR) s (.str cur :: enc v) = true /\ postT ((l ++ [(s, cur, 0)]).map bkR) s (.str cur :: enc v) = (l ++ [(s, cur, v)]).map bkR := by
  have hj : l.length < (l ++ [(s, cur, (0 : Int))]).length := by rw [List.length_append]; show _ < _ + 1; omega
  have he : (l ++ [(s, cur, (0 : Int))])[l.length]'hj = (s, cur, 0) := by simp
  have := h.post hj (v := v) (by rw [he]; exact hv) (by rw [he]; show moneyOk (.str cur :: enc (0 + v)) = true; rw [Int.zero_add]; exact hv)
  rw [he] at this
  simp only [Int.zero_add] at this
  rw [show (l ++ [(s, cur, (0 : Int))]).set l.length (s, cur, v) = l ++ [(s, cur, v)] by simp] at this
  exact this
theorem unitsOf_bk (c : ByteArray) (x : B3) : unitsOf c (bkR x) = if x.2.1 = c then x.2.2 else 0 := by
  show (if x.2.1 = c then ival (enc x.2.2) else 0) = _
  rw [ival_enc]
theorem BkL.sum {l : List B3} (h : BkL l) (c : ByteArray) : bookSum (l.map bkR) c = enc (sumI (unitsOf c) (l.map bkR)) := by
  unfold bookSum; rw [h.ok]; rfl
theorem curs_no10 : ∀ r ∈ implTab, ∀ x ∈ r.1.data.toList, x ≠ 10 := by decide +kernel
theorem known_no10 {c : ByteArray} (h : curKnown c = true) : ∀ x ∈ c.data.toList, x ≠ 10 := by
  unfold curKnown curIn at h
  rw [List.any_eq_true] at h
  obtain ⟨r, hr, he⟩ := h
  have := curs_no10 r hr
  rw [of_decide_eq_true he] at this
  exact this
def N10 (s : ByteArray) : Prop := ∀ x ∈ s.data.toList, x ≠ 10
theorem N10.append {a b : ByteArray} (h : N10 a) (g : N10 b) : N10 (a ++ b) := fun x hx => by
  rw [ByteArray.data_append, Array.toList_append] at hx
  rcases List.mem_append.1 hx with hx | hx
  · exact h x hx
  · exact g x hx
theorem N10.sub {a : ByteArray} (h : N10 a) (i j : Nat) : N10 (a.extract i j) := fun x hx => by
  rw [ByteArray.data_extract, Array.toList_extract, List.extract_eq_take_drop] at hx
  exact h x (List.mem_of_mem_drop (List.mem_of_mem_take hx))
theorem n10_itxt (n : Nat) : N10 (itxt n) := fun x hx => by
  have h : x ∈ Lib.decDigits n := by simpa [itxt] using hx
  have := dig_le (List.all_eq_true.1 (dec_all n) x h)
  intro e; subst e
  exact absurd this.1 (by decide)
theorem n10_zeros (k : Nat) : N10 (zeros k) := fun x hx => by
  have h : x ∈ List.replicate k (48 : UInt8) := by simpa [zeros] using hx
  rw [List.eq_of_mem_replicate h]; decide
theorem n10_money {c : ByteArray} {z : Int} (h : moneyOk (.str c :: enc z) = true) : N10 (moneyT (.str c :: enc z)) := by
  have hc := (moneyOk_parts h).1
  have hdot : ∀ (t : ByteArray) (s : Int), N10 t -> N10 (dotT t s) := fun t s ht => by
    unfold dotT
    split
    · exact ((ht.sub _ _).append (fun x hx => by simp [Sx.S] at hx; subst hx; decide)).append (ht.sub _ _)
    · exact ht
  have hpad : ∀ s : Int, N10 (padT (natT (digs z.natAbs)) s) := fun s => by
    rw [natT_digs]
    unfold padT
    split
    · exact n10_itxt _
    · exact (n10_zeros _).append (n10_itxt _)
  have hdec : N10 (decT (enc z ++ [.int (curPlaces c)])) := by
    show N10 (decT [.bool (decide (z < 0)), .ints (digs z.natAbs), .int (curPlaces c)])
    unfold decT
    simp only
    split
    · split
      · exact (show N10 (S [45]) from fun x hx => by simp [Sx.S] at hx; subst hx; decide).append (hdot _ _ (hpad _))
      · exact hdot _ _ (hpad _)
    · intro x hx; simp [Sx.S] at hx
  show N10 (moneyT [.str c, .bool (decide (z < 0)), .ints (digs z.natAbs)])
  unfold moneyT
  simp only
  split
  · exact (N10.append (known_no10 hc) (fun x hx => by simp [Sx.S] at hx; subst hx; decide)).append hdec
  · intro x hx; simp [Sx.S] at hx
theorem word_no10 {s : ByteArray} (h : isWord s = true) : N10 s := by
  unfold isWord isAll at h
  simp only [Bool.and_eq_true, decide_eq_true_eq, List.all_eq_true, List.mem_range] at h
  intro x hx e
  subst e
  obtain ⟨i, hi, he⟩ := List.getElem_of_mem hx
  have hi2 : i < s.size := by rw [Array.length_toList] at hi; exact hi
  have h1 := h.1.1.2 i hi2
  have h2 : bAt s i = 10 := by
    unfold bAt
    have e1 : s[i]? = some (s[i]'hi2) := getElem?_pos s i hi2
    rw [e1]
    have e2 : s[i]'hi2 = 10 := by rw [<- he]; rfl
    rw [Option.getD_some, e2]; rfl
  rw [h2] at h1
  exact absurd h1 (by decide)
theorem cuts_end {c : UInt8} : ∀ (l acc : List UInt8), (cuts c acc (l ++ [c])).getLast (cuts_ne _ _) = []
  | [], acc => by
    have : cuts c acc [c] = [acc, []] := by rw [cuts, if_pos rfl]; rfl
    simp [this]
  | x :: r, acc => by
    by_cases hx : x = c
    · have : cuts c acc (x :: r ++ [c]) = acc :: cuts c [] (r ++ [c]) := by rw [List.cons_append, cuts, if_pos hx]
      simp only [this]
      rw [List.getLast_cons (cuts_ne _ _)]
      exact cuts_end r []
    · have : cuts c acc (x :: r ++ [c]) = cuts c (acc ++ [x]) (r ++ [c]) := by rw [List.cons_append, cuts, if_neg hx]
      simp only [this]
      exact cuts_end r _
theorem acct_list {x : B3} (hw : isWord x.1 = true) (hm : moneyOk (.str x.2.1 :: enc x.2.2) = true) : ∃ a : List UInt8, (acctT (bkR x)).data.toList = a ++ [10] /\ (∀ y ∈ a, y ≠ 10) := by
  refine ⟨((x.1 ++ S [32]) ++ moneyT (.str x.2.1 :: enc x.2.2)).data.toList, ?_, ?_⟩
  · show ((((x.1 ++ S [32]) ++ moneyT (.str x.2.1 :: enc x.2.2)) ++ S [10]).data.toList) = _
    rw [ByteArray.data_append, Array.toList_append]
  · exact ((word_no10 hw).append (fun x hx => by simp [Sx.S] at hx; subst hx; decide)).append (n10_money hm)
theorem bookT_snoc (l : List (List D0)) (x : List D0) : bookT (l ++ [x]) = bookT l ++ acctT x := by
  unfold bookT; rw [List.foldl_append]; rfl
theorem foldT_count : ∀ (l : List B3) (a : ByteArray), (∀ x ∈ l, isWord x.1 = true /\ moneyOk (.str x.2.1 :: enc x.2.2) = true) -> ((l.map bkR).foldl (fun s x => s ++ acctT x) a).data.toList.count 10 = a.data.toList.count 10 + l.length
  | [], a, _ => by simp
  | x :: r, a, h => by
    obtain ⟨b, hb, hn⟩ := acct_list (h x (by simp)).1 (h x (by simp)).2
    show ((r.map bkR).foldl (fun s x => s ++ acctT x) (a ++ acctT (bkR x))).data.toList.count 10 = _
    rw [foldT_count r _ (fun y hy => h y (by simp [hy])), ByteArray.data_append, Array.toList_append, List.count_append, hb, List.count_append, List.count_eq_zero.2 (fun hm => hn 10 hm rfl)]
    simp only [List.length_cons, List.count_singleton, beq_self_eq_true, if_true]
    omega
theorem bookT_count (l : List B3) (h : ∀ x ∈ l, isWord x.1 = true /\ moneyOk (.str x.2.1 :: enc x.2.2) = true) : (bookT (l.map bkR)).data.toList.count 10 = l.length := by
  unfold bookT
  rw [foldT_count l _ h]
  show ([] : List UInt8).count 10 + l.length = _
  simp
end Go.Proofs.YtbgokfhcgcoipaaGreatDoor
namespace Go.Proofs.YtbgokfhcgcoipaaGreatDoor
open Go Go.Proofs.YtbgokfhcgcoipaaGreatDoor.Sx
def ByR (W : World) (p : Option Addr) (n : Nat) : Prop := 0 < n -> ∃ (b o : Nat) (zs : List Int), p = some ⟨b, o, none⟩ /\ zs.length = n /\ Seg W b o (zs.map (Value.int .u8)) /\ b < W.heap.size
theorem ByR.ext {W W' : World} {p : Option Addr} {n : Nat} (h : ByR W p n) (he : Ext W W') : ByR W' p n := fun hn => by
  obtain ⟨b, o, zs, h1, h2, h3, h4⟩ := h hn
  exact ⟨b, o, zs, h1, h2, h3.ext he, Nat.lt_of_lt_of_le h4 he.le⟩
theorem ByR.chg {W W' : World} {p : Option Addr} {n r : Nat} (h : ByR W p n) (he : Chg [r] W W') (hr : 0 < n -> ∀ q, p.map (·.block) = some q -> q ≠ r) : ByR W' p n := fun hn => by
  obtain ⟨b, o, zs, rfl, h2, h3, h4⟩ := h hn
  exact ⟨b, o, zs, rfl, h2, h3.chg he (fun hm => hr hn b rfl (List.mem_singleton.1 hm)), Nat.lt_of_lt_of_le h4 he.size⟩
theorem ByR.at {W : World} {p : Option Addr} {n : Nat} (h : ByR W p n) {i : Int} (h0 : 0 <= i) (h1 : i < n) : ∃ a z, p = some a /\ Loads P T_uint8 (a.add (i.toNat * 1)) (.int .u8 z) W := by
  obtain ⟨b, o, zs, rfl, h2, h3, h4⟩ := h (by omega)
  have hk : i.toNat < zs.length := by omega
  refine ⟨⟨b, o, none⟩, zs[i.toNat], rfl, h3.load (by kernel_rfl) ?_⟩
  rw [Nat.mul_one, List.getElem?_map, List.getElem?_eq_getElem hk]; rfl
def Cur (W : World) (r : Nat) (p : Option Addr) (n c : Nat) : Prop := ∃ (e : TypeId) (i h : Int), 0 <= i /\ Blk W r e [.slice p n c, .int .i64 i, .int .i64 h]
theorem Cur.ext {W W' : World} {r n c : Nat} {p : Option Addr} (h : Cur W r p n c) (he : Ext W W') : Cur W' r p n c := by
  obtain ⟨e, i, x, h1, h2⟩ := h; exact ⟨e, i, x, h1, h2.ext he⟩
theorem Cur.lt {W : World} {r n c : Nat} {p : Option Addr} (h : Cur W r p n c) : r < W.heap.size := by
  obtain ⟨e, i, x, h1, h2⟩ := h; exact h2.lt
theorem and255 (x : Int) : ∃ z : Int, z = IntKind.wrap .i64 (((BitVec.ofInt (IntKind.bits .i64) x &&& BitVec.ofInt (IntKind.bits .i64) 255).toNat : Nat) : Int) /\ 0 <= z /\ z <= 255 := by
  have h : (BitVec.ofInt (IntKind.bits .i64) x &&& BitVec.ofInt (IntKind.bits .i64) 255).toNat <= 255 := by
    rw [BitVec.toNat_and]
    exact Nat.le_trans Nat.and_le_right (by decide)
  exact ⟨_, rfl, by rw [wrap64 (by omega) (by omega)]; omega, by rw [wrap64 (by omega) (by omega)]; omega⟩
theorem spec_l01New_c {w : World} {p : Option Addr} {n c : Nat} (h : ByR w p n) (hn : n <= 1048576) : Ret P n_spec_l01New [.slice p n c] w fun v w' => ∃ r, v = .pointer (some ⟨r, 0, none⟩) /\ w.heap.size <= r /\ Cur w' r p n c /\ Ext w w' := by
  refine spec_l01New_ret ?_
  unfold spec_l01New
  refine ⟨_, rfl, fun _ i W => ∃ k : Nat, i = k /\ W = w, fun _ i _ => n - i.toNat, ⟨0, rfl, rfl⟩, ?_⟩
  rintro junk W hh i ⟨k, rfl, rfl⟩
  have fin : ∀ (r : Nat) (w1 : World), New W (.cells ⟨[.slice p n c, .int .i64 0, .int .i64 hh]⟩ T_spec_l01Cur (0, 0)) r w1 -> ∃ r', Value.pointer (some ⟨r, 0, none⟩) = .pointer (some ⟨r', 0, none⟩) /\ W.heap.size <= r' /\ Cur w1 r' p n c /\ Ext W w1 := fun r w1 hn1 =>
    ⟨r, rfl, by have := hn1.r_eq; omega, ⟨_, 0, hh, by omega, hn1.blk⟩, hn1.ext⟩
  refine ifD (fun hlt => ifD (fun h4 => ?_) (fun _ => fin)) (fun hge => ifF fin)
  unfold spec_l01New_j0
  obtain ⟨a, z, rfl, hl⟩ := h.at (i := (k : Int)) (by omega) hlt
  refine ⟨_, rfl, ⟨by omega, hlt⟩, _, hl, _, rfl, _, rfl, _, rfl, _, rfl, exW ⟨by omega, by omega⟩ ⟨⟨k + 1, by omega, rfl⟩, ?_⟩⟩
  show n - ((k : Int) + 1).toNat < n - (k : Int).toNat
  omega
theorem spec_l01Byte_c {w : World} {r n c : Nat} {p : Option Addr} (hc : Cur w r p n c) (hb : ByR w p n) (hne : 0 < n -> ∀ q, p.map (·.block) = some q -> q ≠ r) (hn : n <= 1048576) :
    Ret P n_spec_l01Byte [.pointer (some ⟨r, 0, none⟩)] w fun v w' => ∃ z : Int, v = .int .i64 z /\ 0 <= z /\ z <= 255 /\ Cur w' r p n c /\ Chg [r] w w' := by
  obtain ⟨e, i, hh, hi, hblk⟩ := hc
  refine spec_l01Byte_ret ?_
  unfold spec_l01Byte
  refine ⟨_, hblk.load (by kernel_rfl) rfl, _, rfl, _, rfl, ?_⟩
  obtain ⟨w1, st1, hb1, ch1, _⟩ := hblk.store (P := P) (t := T_int) (k := 2) (v := .int .i64 (IntKind.wrap .i64 (IntKind.wrap .i64 (hh * 6364136223846793005) + 1442695040888963407))) (by kernel_rfl) (by simp) rfl
  have D1 := Ext.drew w1
  have D2 := D1.trans (Ext.drew w1.drew)
  have D3 := D2.trans (Ext.drew w1.drew.drew)
  have hb2 := hb1.ext D2; have hb3 := hb1.ext D3
  have hby := (hb.chg ch1 hne).ext D3
  refine ⟨w1, st1, _, fun W hW => ((hb1.ext D1).ext hW).load (by kernel_rfl) rfl, by decide, _, rfl, _, fun W hW => ((hb1.ext D1).ext hW).load (by kernel_rfl) rfl, by decide, _, rfl, _, rfl, ?_⟩
  obtain ⟨z1, hz1, z10, z11⟩ := and255 (IntKind.wrap .i64 (((BitVec.ofInt (IntKind.bits .i64) (Int.fdiv (IntKind.wrap .i64 (IntKind.wrap .i64 (hh * 6364136223846793005) + 1442695040888963407)) (2 ^ (min (33 : Int).toNat (IntKind.bits .i64)))) ^^^ BitVec.ofInt (IntKind.bits .i64) (Int.fdiv (IntKind.wrap .i64 (IntKind.wrap .i64 (hh * 6364136223846793005) + 1442695040888963407)) (2 ^ (min (45 : Int).toNat (IntKind.bits .i64))))).toNat : Nat) : Int))
  refine ⟨z1, hz1, _, fun W hW => (hb2.ext hW).load (by kernel_rfl) rfl, _, _, _, fun W hW => (hb2.ext hW).load (by kernel_rfl) rfl, ifD (fun hlt => ?_) (fun hge => ?_)⟩
  · obtain ⟨a, z, hpa, _⟩ := hby.at hi hlt
    obtain ⟨b, o, zs, hpe, hzl, hseg, hblt⟩ := hby (by omega)
    have hpo : p = some ⟨b, o, none⟩ := hpe
    subst hpo
    have hk : i.toNat < zs.length := by omega
    refine ⟨_, _, _, fun W hW => (hb3.ext hW).load (by kernel_rfl) rfl, _, fun W hW => (hb3.ext hW).load (by kernel_rfl) rfl, ⟨hi, hlt⟩, ?_⟩
    refine ⟨zs[i.toNat], fun W hW => (hseg.ext hW).load (by kernel_rfl) (by rw [Nat.mul_one, List.getElem?_map, List.getElem?_eq_getElem hk]; rfl), _, rfl, _, rfl, ?_⟩
    obtain ⟨z2, hz2, z20, z21⟩ := and255 (IntKind.wrap .i64 (z1 + IntKind.wrap .i64 zs[i.toNat]))
    refine ⟨z2, hz2, _, hb3.load (by kernel_rfl) rfl, exW ⟨by omega, by omega⟩ ?_⟩
    obtain ⟨w2, st2, hb4, ch2, _⟩ := hb3.store (P := P) (t := T_int) (k := 1) (v := .int .i64 (i + 1)) (by kernel_rfl) (by simp) rfl
    refine ⟨w2, st2, ?_⟩
    unfold spec_l01Byte_j0
    exact ⟨z2, rfl, z20, z21, ⟨e, i + 1, IntKind.wrap .i64 (IntKind.wrap .i64 (hh * 6364136223846793005) + 1442695040888963407), by omega, hb4⟩, (ch1.trans D3.toChg).trans ch2⟩
  · unfold spec_l01Byte_j0
    exact ⟨z1, rfl, z10, z11, ⟨e, i, IntKind.wrap .i64 (IntKind.wrap .i64 (hh * 6364136223846793005) + 1442695040888963407), hi, hb2⟩, ch1.trans D2.toChg⟩
theorem spec_l01Below_c {w : World} {r n c : Nat} {p : Option Addr} (hc : Cur w r p n c) (hb : ByR w p n) (hne : 0 < n -> ∀ q, p.map (·.block) = some q -> q ≠ r) (hn : n <= 1048576) {k : Int} (hk : 0 < k) (hk2 : k <= 1000000000) :
    Ret P n_spec_l01Below [.pointer (some ⟨r, 0, none⟩), .int .i64 k] w fun v w' => ∃ z : Int, v = .int .i64 z /\ 0 <= z /\ z < k /\ Cur w' r p n c /\ Chg [r] w w' := by
  refine spec_l01Below_ret ?_
  unfold spec_l01Below
  refine ifD (fun h => by omega) (fun _ => ifD (fun _ => ?_) (fun _ => ?_))
  · refine Ret.at (spec_l01Byte_c hc hb hne hn) ?_
    rintro v w1 ⟨z, rfl, z0, z1, hc1, ch1⟩
    refine ⟨_, rfl, by omega, _, rfl, _, rfl, ?_, ?_, hc1, ch1⟩
    · exact Int.tmod_nonneg _ z0
    · rw [Int.tmod_eq_emod_of_nonneg z0]; exact Int.emod_lt_of_pos _ hk
  · refine Ret.at (spec_l01Byte_c hc hb hne hn) ?_
    rintro v w1 ⟨x1, rfl, a0, a1, hc1, ch1⟩
    refine ⟨_, rfl, ?_⟩
    have hb1 := hb.chg ch1 hne
    refine Ret.at (spec_l01Byte_c hc1 hb1 hne hn) ?_
    rintro v w2 ⟨x2, rfl, b0, b1, hc2, ch2⟩
    refine ⟨_, rfl, ?_⟩
    have hb2 := hb1.chg ch2 hne
    refine Ret.at (spec_l01Byte_c hc2 hb2 hne hn) ?_
    rintro v w3 ⟨x3, rfl, c0, c1, hc3, ch3⟩
    refine ⟨_, rfl, ?_⟩
    have hb3 := hb2.chg ch3 hne
    refine Ret.at (spec_l01Byte_c hc3 hb3 hne hn) ?_
    rintro v w4 ⟨x4, rfl, d0, d1, hc4, ch4⟩
    refine ⟨_, rfl, exW ⟨by omega, by omega⟩ (exW ⟨by omega, by omega⟩ (exW ⟨by omega, by omega⟩ (exW ⟨by omega, by omega⟩ (exW ⟨by omega, by omega⟩ (exW ⟨by omega, by omega⟩ ⟨by omega, _, rfl, _, rfl, ?_, ?_, hc4, ((ch1.trans ch2).trans ch3).trans ch4⟩)))))⟩
    · exact Int.tmod_nonneg _ (by omega)
    · rw [Int.tmod_eq_emod_of_nonneg (by omega)]; exact Int.emod_lt_of_pos _ hk
end Go.Proofs.YtbgokfhcgcoipaaGreatDoor
namespace Go.Proofs.YtbgokfhcgcoipaaGreatDoor
open Go Go.Proofs.YtbgokfhcgcoipaaGreatDoor.Sx
theorem ByR.ne {W : World} {p : Option Addr} {n r : Nat} (h : ByR W p n) (hr : W.heap.size <= r) : 0 < n -> ∀ q, p.map (·.block) = some q -> q ≠ r := fun hn q hq => by
  obtain ⟨b, o, zs, rfl, _, _, h4⟩ := h hn
  simp only [Option.map_some, Option.some.injEq] at hq
  omega
theorem curBump {W : World} {r n c : Nat} {p : Option Addr} {k : Int} (hc : Cur W r p n c) {Q : World -> Prop} (hq : ∀ W', Cur W' r p n c -> Chg [r] W W' -> Q W') :
    ∃ t : Int, Loads P T_int ((⟨r, 0, none⟩ : Addr).add 2) (.int .i64 t) W /\ ∃ t2 : Int, t2 = IntKind.wrap .i64 (t + k) /\ ∃ W', Stores P T_int ((⟨r, 0, none⟩ : Addr).add 2) (.int .i64 t2) W W' /\ Q W' := by
  obtain ⟨e, i, x, h1, h2⟩ := hc
  obtain ⟨W', st, hb, ch, _⟩ := h2.store (P := P) (t := T_int) (k := 2) (v := .int .i64 (IntKind.wrap .i64 (x + k))) (by kernel_rfl) (by simp) rfl
  exact ⟨x, h2.load (by kernel_rfl) rfl, _, rfl, W', st, hq W' ⟨e, i, _, h1, hb⟩ ch⟩
theorem spec_MakeNum_c {w : World} {p : Option Addr} {n c : Nat} (h : ByR w p n) (hn : n <= 1048576) {k : Int} (hk : 0 < k) (hk2 : k <= 1000000000) : Ret P n_spec_MakeNum [.slice p n c, .int .i64 k] w fun v w' => ∃ z : Int, v = .int .i64 z /\ 0 <= z /\ z < k /\ Ext w w' := by
  refine spec_MakeNum_ret ?_
  unfold spec_MakeNum
  refine Ret.at (spec_l01New_c h hn) ?_
  rintro v w1 ⟨r, rfl, hr, hc, y1⟩
  refine ⟨_, rfl, curBump hc fun w2 hc2 ch2 => ?_⟩
  refine Ret.at (spec_l01Below_c hc2 ((h.ext y1).chg ch2 (h.ne hr)) (h.ne hr) hn hk hk2) ?_
  rintro v w3 ⟨z, rfl, z0, z1, _, ch3⟩
  exact ⟨_, rfl, z, rfl, z0, z1, (y1.chg ch2 (fun q hq => by have := List.mem_singleton.1 hq; omega)).chg ch3 (fun q hq => by have := List.mem_singleton.1 hq; omega)⟩
end Go.Proofs.YtbgokfhcgcoipaaGreatDoor
namespace Go.Proofs.YtbgokfhcgcoipaaGreatDoor
open Go Go.Proofs.YtbgokfhcgcoipaaGreatDoor.Sx
theorem spec_l01Str_c {w : World} {r n c : Nat} {p : Option Addr} (hc : Cur w r p n c) (hb : ByR w p n) (hne : 0 < n -> ∀ q, p.map (·.block) = some q -> q ≠ r) (hn : n <= 1048576) {b o ln lc : Nat} {ss : List ByteArray} (hs : Seg w b o (ss.map Value.string)) (hbr : b ≠ r) (hl : ss.length = ln) (h0 : 0 < ln) (h1 : ln <= 1000) :
    Ret P n_spec_l01Str [.pointer (some ⟨r, 0, none⟩), .slice (some ⟨b, o, none⟩) ln lc] w fun v w' => ∃ s, v = .string s /\ s ∈ ss /\ Cur w' r p n c /\ Chg [r] w w' := by
  refine spec_l01Str_ret ?_
  unfold spec_l01Str
  refine Ret.at (spec_l01Below_c hc hb hne hn (k := ((ln : Nat) : Int)) (by omega) (by omega)) ?_
  rintro v w1 ⟨z, rfl, z0, z1, hc1, ch1⟩
  have hk : z.toNat < ss.length := by omega
  refine ⟨_, rfl, ⟨z0, z1⟩, ss[z.toNat], (hs.chg ch1 (fun hm => hbr (List.mem_singleton.1 hm))).loadAt z.toNat (by rw [addr_add, Nat.mul_one]) (by kernel_rfl) (by rw [List.getElem?_map, List.getElem?_eq_getElem hk]; rfl), ?_⟩
  exact ⟨_, rfl, List.getElem_mem hk, hc1, ch1⟩
end Go.Proofs.YtbgokfhcgcoipaaGreatDoor
namespace Go.Proofs.YtbgokfhcgcoipaaGreatDoor
open Go Go.Proofs.YtbgokfhcgcoipaaGreatDoor.Sx
theorem chg_fresh {S T : List Nat} {a b c : World} (h : Chg S a b) (k : Chg T b c) (hT : ∀ q ∈ T, a.heap.size <= q) : Chg S a c := by
  refine ⟨k.os.trans h.os, k.tape.trans h.tape, k.output.trans h.output, Nat.le_trans h.size k.size, fun q hq hm => ?_⟩
  rw [k.block q (Nat.lt_of_lt_of_le hq h.size) (fun h7 => by have := hT q h7; omega)]
  exact h.block q hq hm
theorem Cur.keep {W W' : World} {r n c : Nat} {p : Option Addr} {T : List Nat} (h : Cur W r p n c) (k : Chg T W W') (hT : r ∉ T) : Cur W' r p n c := by
  obtain ⟨e, i, x, g1, g2⟩ := h
  exact ⟨e, i, x, g1, g2.chg k hT⟩
theorem spec_l01Once_c {w : World} {r n c : Nat} {p : Option Addr} (hc : Cur w r p n c) (hb : ByR w p n) (hne : 0 < n -> ∀ q, p.map (·.block) = some q -> q ≠ r) (hn : n <= 1048576) {k : Int} (hk : 0 < k) (hk2 : k <= 1000000000) :
    Ret P n_spec_l01Once [.pointer (some ⟨r, 0, none⟩), .int .i64 k] w fun v w' => ∃ b, v = .bool b /\ Cur w' r p n c /\ Chg [r] w w' := by
  refine spec_l01Once_ret ?_
  unfold spec_l01Once
  refine Ret.at (spec_l01Below_c hc hb hne hn hk hk2) ?_
  rintro v w1 ⟨z, rfl, z0, z1, hc1, ch1⟩
  exact ⟨_, rfl, _, rfl, hc1, ch1⟩
end Go.Proofs.YtbgokfhcgcoipaaGreatDoor
namespace Go.Proofs.YtbgokfhcgcoipaaGreatDoor
open Go
abbrev muLink : Go.Conc.Locks.MuLink := { lock := 240, unlock := 241, ilock := 294, iunlock := 295, lockSlow := 326, unlockSlow := 329, disable := 322, enable := 324, acquire := 325, relMerge := 327, cas32 := 323, add32 := 328, tMutex := 227, tIMutex := 225, tPMutex := 290, tPIMutex := 322, tPI32 := 324, tUP := 310, tNoCopy := 222, tU32 := 223 }
theorem muLib : Go.Conc.Locks.MuLib Tryz.prog muLink :=
  ⟨Tryz.func240, Tryz.func241, Tryz.func294, Tryz.func295, Tryz.func322, Tryz.func324, Tryz.func325, Tryz.func327, Tryz.func323, Tryz.func328, Tryz.underlying225, Tryz.runUnderlying225, Tryz.sizeOf225, Tryz.isAgg225, Tryz.zeroValue225, Tryz.underlying227, Tryz.runUnderlying227, Tryz.sizeOf227, Tryz.isAgg227, Tryz.zeroValue227, Tryz.underlying290, Tryz.runUnderlying290, Tryz.sizeOf290, Tryz.isAgg290, Tryz.zeroValue290, Tryz.underlying322, Tryz.runUnderlying322, Tryz.sizeOf322, Tryz.isAgg322, Tryz.zeroValue322, Tryz.underlying324, Tryz.runUnderlying324, Tryz.sizeOf324, Tryz.isAgg324, Tryz.zeroValue324, Tryz.underlying310, Tryz.runUnderlying310, Tryz.sizeOf310, Tryz.isAgg310, Tryz.zeroValue310, Tryz.underlying222, Tryz.runUnderlying222, Tryz.sizeOf222, Tryz.isAgg222, Tryz.zeroValue222, Tryz.underlying21, Tryz.runUnderlying21, Tryz.sizeOf21, Tryz.isAgg21, Tryz.zeroValue21, (by kernel_rfl)⟩
end Go.Proofs.YtbgokfhcgcoipaaGreatDoor
namespace Go.Proofs.YtbgokfhcgcoipaaGreatDoor
open Go Go.Proofs Go.Proofs.YtbgokfhcgcoipaaGreatDoor.Sx
theorem blk_setCellC {w : World} {b k : Nat} {e : TypeId} {cs : List Value} (h : Blk w b e cs) (v : Value) : Blk (w.setCell ⟨b, k, none⟩ v) b e (cs.set k v) /\ Chg [b] w (w.setCell ⟨b, k, none⟩ v) := by
  have h' : w.heap[b]? = some (.cells ⟨cs⟩ e (0, 0)) := h
  refine ⟨?_, rfl, rfl, rfl, by simp [World.setCell], fun j hj hn => ?_⟩
  rotate_left
  · show (w.heap.modify b _)[j]? = _
    rw [Array.getElem?_modify, if_neg (fun e => hn (by rw [e]; simp))]
  show (w.heap.modify b _)[b]? = _
  rw [Array.getElem?_modify, if_pos rfl, h']
  simp
theorem blk_frozenC {w : World} {b k : Nat} {e : TypeId} {cs : List Value} (h : Blk w b e cs) : w.frozen? ⟨b, k, none⟩ = false := by
  have h' : w.heap[b]? = some (.cells ⟨cs⟩ e (0, 0)) := h
  simp [World.frozen?, h']
set_option maxHeartbeats 1000000 in
theorem change_BookOpen {w : World} {r n c : Nat} {e : TypeId} {p : Option Addr} {c0 c1 : Value} {Q : Bool -> Option Addr -> Nat -> Nat -> World -> Prop} (hb : Blk w r e [.int .i32 0, .int .u32 0, .slice p n c])
    (hcall : ∀ w1, Blk w1 r e [.int .i32 1, .int .u32 0, .slice p n c] -> Chg [r] w w1 -> w1.heap.size = w.heap.size -> Calls Tryz.prog 135 #[.pointer (some ⟨r, 2, none⟩), c0, c1] w1 fun ed w2 => ∃ ok p' n' c', ed = .returned (.bool ok) /\ Q ok p' n' c' w2 /\ Blk w2 r e [.int .i32 1, .int .u32 0, .slice p' n' c']) :
    Calls Tryz.prog 200 #[.pointer (some ⟨r, 0, none⟩), .func (.func 135) #[] #[c0, c1]] w fun ed w' => ∃ v, ed = .returned v /\ ∃ ok p' n' c' w2, v = .bool ok /\ Q ok p' n' c' w2 /\ Chg [r] w2 w' /\ w'.heap.size = w2.heap.size /\ Blk w' r e [.int .i32 0, .int .u32 0, .slice p' n' c'] := by
  obtain ⟨hb1, ch1⟩ := blk_setCellC (k := 0) hb (.int .i32 1)
  have hc0 : w.cell? ⟨r, 0, none⟩ = some (.int .i32 0) := by rw [hb.cell]; rfl
  have hcl := hcall (w.setCell ⟨r, 0, none⟩ (.int .i32 1)) hb1 ch1 (by simp [World.setCell])
  go_enter_defers Tryz.func200, Tryz.ntmps200
  go_wp2_with (first | (go_at_call 240; refine (Go.MuLone.lock_free muLib ⟨r, 0, none⟩ _ hc0 (blk_frozenC hb)).mono ?_; rintro e w' ⟨rfl, rfl⟩) | (go_at_call 135; refine hcl.mono ?_; rintro e w2 ⟨ok, p', n', c', rfl, hQ, hb2⟩))
  refine leaves_cons (f := 241) (args := #[.pointer (some ⟨r, 0, none⟩)]) (by simp) (by simp [go_sem]) ?_
  refine (Go.MuLone.unlock_deferred muLib ⟨r, 0, none⟩ .returning _ (by rw [hb2.cell]; rfl) (blk_frozenC hb2)).mono ?_
  rintro e u' w'' ⟨rfl, rfl, rfl⟩
  obtain ⟨hb3, ch3⟩ := blk_setCellC (k := 0) hb2 (.int .i32 0)
  exact ⟨_, results_tmp rfl _ _ _, _, rfl, ok, p', n', c', w2, rfl, hQ, ch3, by simp [World.setCell], hb3⟩
set_option maxHeartbeats 1000000 in
theorem change_BookPost {w : World} {r n c : Nat} {e : TypeId} {p : Option Addr} {c0 c1 : Value} {Q : Bool -> Option Addr -> Nat -> Nat -> World -> Prop} (hb : Blk w r e [.int .i32 0, .int .u32 0, .slice p n c])
    (hcall : ∀ w1, Blk w1 r e [.int .i32 1, .int .u32 0, .slice p n c] -> Chg [r] w w1 -> w1.heap.size = w.heap.size -> Calls Tryz.prog 137 #[.pointer (some ⟨r, 2, none⟩), c0, c1] w1 fun ed w2 => ∃ ok p' n' c', ed = .returned (.bool ok) /\ Q ok p' n' c' w2 /\ Blk w2 r e [.int .i32 1, .int .u32 0, .slice p' n' c']) :
    Calls Tryz.prog 200 #[.pointer (some ⟨r, 0, none⟩), .func (.func 137) #[] #[c0, c1]] w fun ed w' => ∃ v, ed = .returned v /\ ∃ ok p' n' c' w2, v = .bool ok /\ Q ok p' n' c' w2 /\ Chg [r] w2 w' /\ w'.heap.size = w2.heap.size /\ Blk w' r e [.int .i32 0, .int .u32 0, .slice p' n' c'] := by
  obtain ⟨hb1, ch1⟩ := blk_setCellC (k := 0) hb (.int .i32 1)
  have hc0 : w.cell? ⟨r, 0, none⟩ = some (.int .i32 0) := by rw [hb.cell]; rfl
  have hcl := hcall (w.setCell ⟨r, 0, none⟩ (.int .i32 1)) hb1 ch1 (by simp [World.setCell])
  go_enter_defers Tryz.func200, Tryz.ntmps200
  go_wp2_with (first | (go_at_call 240; refine (Go.MuLone.lock_free muLib ⟨r, 0, none⟩ _ hc0 (blk_frozenC hb)).mono ?_; rintro e w' ⟨rfl, rfl⟩) | (go_at_call 137; refine hcl.mono ?_; rintro e w2 ⟨ok, p', n', c', rfl, hQ, hb2⟩))
  refine leaves_cons (f := 241) (args := #[.pointer (some ⟨r, 0, none⟩)]) (by simp) (by simp [go_sem]) ?_
  refine (Go.MuLone.unlock_deferred muLib ⟨r, 0, none⟩ .returning _ (by rw [hb2.cell]; rfl) (blk_frozenC hb2)).mono ?_
  rintro e u' w'' ⟨rfl, rfl, rfl⟩
  obtain ⟨hb3, ch3⟩ := blk_setCellC (k := 0) hb2 (.int .i32 0)
  exact ⟨_, results_tmp rfl _ _ _, _, rfl, ok, p', n', c', w2, rfl, hQ, ch3, by simp [World.setCell], hb3⟩
end Go.Proofs.YtbgokfhcgcoipaaGreatDoor
namespace Go.Proofs.YtbgokfhcgcoipaaGreatDoor.Sx
open Go Go.RowKit
theorem Fl.trans {os : List Obj} {ss : List (Option Nat)} {w : World} {s1 : List (Option Nat)} {w1 : World} {s2 : List (Option Nat)} {w2 : World} (h : Fl os ss w s1 w1) (g : Fl os s1 w1 s2 w2) : Fl os ss w s2 w2 := by
  induction h with
  | refl => exact g
  | step h1 h2 _ ih => exact .step h1 h2 (ih g)
theorem Fl.old {os : List Obj} {ss : List (Option Nat)} {w : World} {s1 : List (Option Nat)} {w1 : World} (h : Fl os ss w s1 w1) {k r : Nat} (hk : s1[k]? = some (some r)) : ss[k]? = some (some r) ∨ w.heap.size <= r := by
  induction h with
  | refl => exact .inl hk
  | step h1 h2 h3 ih =>
    rename_i ss w k' o s' w'
    have hs : (w.alloc o).heap.size = w.heap.size + 1 := by simp
    rcases ih hk with h | h
    · by_cases e : k' = k
      · subst e
        have hl : k' < ss.length := by
          rcases Nat.lt_or_ge k' ss.length with h | h
          · exact h
          · rw [List.getElem?_eq_none h] at h1; cases h1
        rw [List.getElem?_set_self hl] at h
        simp at h
        exact .inr (by omega)
      · rw [List.getElem?_set_ne e] at h
        exact .inl h
    · exact .inr (by omega)
def FlS (os : List Obj) (w0 : World) (ss : List (Option Nat)) (w : World) : Prop :=
 Ext w0 w /\ (∀ (k r : Nat), ss[k]? = some (some r) -> w0.heap.size <= r /\ r < w.heap.size /\ w.heap[r]? = os[k]?) /\ (∀ (k l r : Nat), ss[k]? = some (some r) -> ss[l]? = some (some r) -> k = l)
theorem FlS.ext {os : List Obj} {w0 w w' : World} {ss : List (Option Nat)} (h : FlS os w0 ss w) (y : Ext w w') : FlS os w0 ss w' :=
  ⟨h.1.trans y, fun k r hk => by
    obtain ⟨a, b, c⟩ := h.2.1 k r hk
    exact ⟨a, Nat.lt_of_lt_of_le b y.le, (y.block r b).trans c⟩, h.2.2⟩
theorem FlS.step {os : List Obj} {w0 w w' : World} {ss ss' : List (Option Nat)} (h : FlS os w0 ss w) (f : Fl os ss w ss' w') : FlS os w0 ss' w' := by
  induction f with
  | refl => exact h
  | step h1 h2 h3 ih =>
    rename_i ss w k' o s' w'
    refine ih ?_
    have y : Ext w (w.alloc o) := (Below.refl _ _).alloc (Nat.le_refl _) _
    have hs : (w.alloc o).heap.size = w.heap.size + 1 := by simp
    have hg : (w.alloc o).heap[w.heap.size]? = some o := heap_alloc_new w _
    have hl : k' < ss.length := by
      rcases Nat.lt_or_ge k' ss.length with h | h
      · exact h
      · rw [List.getElem?_eq_none h] at h1; cases h1
    have hx := h.ext y
    have hle := h.1.le
    refine ⟨hx.1, fun k r hk => ?_, fun k l r hk hl' => ?_⟩
    · by_cases e : k' = k
      · subst e
        rw [List.getElem?_set_self hl] at hk
        simp at hk
        subst hk
        exact ⟨hle, by omega, hg.trans h2.symm⟩
      · rw [List.getElem?_set_ne e] at hk
        exact hx.2.1 k r hk
    · by_cases e : k' = k
      · by_cases e2 : k' = l
        · omega
        · subst e
          rw [List.getElem?_set_self hl] at hk
          simp at hk
          subst hk
          rw [List.getElem?_set_ne e2] at hl'
          have := (h.2.1 l _ hl').2.1
          omega
      · rw [List.getElem?_set_ne e] at hk
        by_cases e2 : k' = l
        · subst e2
          rw [List.getElem?_set_self hl] at hl'
          simp at hl'
          subst hl'
          have := (h.2.1 k _ hk).2.1
          omega
        · rw [List.getElem?_set_ne e2] at hl'
          exact h.2.2 k l r hk hl'
theorem FlS.first {os : List Obj} {w0 w : World} {ss0 ss : List (Option Nat)} (f : Fl os ss0 w0 ss w) (h : ss0.all Option.isNone = true) : FlS os w0 ss w := by
  refine FlS.step ⟨Ext.refl _, fun k r hk => ?_, fun k l r hk _ => ?_⟩ f <;>
  · have hm := List.mem_of_getElem? hk
    have := List.all_eq_true.1 h _ hm
    simp at this
theorem FlS.blk {os : List Obj} {w0 w : World} {ss : List (Option Nat)} {k r : Nat} {cs : List Value} {e : TypeId} (h : FlS os w0 ss w) (hk : ss[k]? = some (some r)) (ho : os[k]? = some (.cells ⟨cs⟩ e (0, 0))) : w0.heap.size <= r /\ r < w.heap.size /\ Blk w r e cs := by
  obtain ⟨a, b, c⟩ := h.2.1 k r hk
  exact ⟨a, b, c.trans ho⟩
theorem FlS.ne {os : List Obj} {w0 w : World} {ss : List (Option Nat)} {k l r s : Nat} (h : FlS os w0 ss w) (hk : ss[k]? = some (some r)) (hl : ss[l]? = some (some s)) (e : k ≠ l) : r ≠ s := fun hh => e (h.2.2 k l r hk (hh ▸ hl))
theorem FlS.apart {os : List Obj} {w0 wc we w' : World} {ss ss' : List (Option Nat)} {k r : Nat} (h : FlS os w0 ss wc) (f : Fl os ss we ss' w') (hk : ss'[k]? = some (some r)) : r < wc.heap.size ∨ we.heap.size <= r := by
  rcases f.old hk with a | a
  · exact .inl (h.2.1 k r a).2.1
  · exact .inr a
end Go.Proofs.YtbgokfhcgcoipaaGreatDoor.Sx
namespace Go.Proofs.YtbgokfhcgcoipaaGreatDoor
open Go Go.Proofs.YtbgokfhcgcoipaaGreatDoor.Sx
set_option maxHeartbeats 1000000 in
theorem impl_BookPost_1_c {w0 w : World} {B r n c rj rm j : Nat} {e : TypeId} {p : Option Addr} {l : List (List D0)} {f : List Nat} {d0 : ByteArray} {d1 : Bool} {dp : Option Addr} {dn dc : Nat} {dz : List Int} (ht : Tab w0) (hx0 : Ext w0 w)
    (hb : Blk w r e [.int .i32 1, .int .u32 0, .slice p n c]) (ho : OwnRows w B T_impl_Acct 4 p n c l f) (hrf : r ∉ f) (hB : B <= w.heap.size) (hc : ∀ x ∈ l, x.map D0.code = [.str, .str, .bool, .ints]) (hn : n <= 1000) (hj : j < l.length)
    (hjb : Blk w rj T_int [.int .i64 (j : Int)]) (hmb : Blk w rm T_impl_Money [.string d0, .bool d1, .slice dp dn dc]) (g : Reps w [.string d0, .bool d1, .slice dp dn dc] [.str d0, .bool d1, .ints dz]) :
    Ret P n_impl_BookPost_1 [.pointer (some ⟨r, 2, none⟩), .pointer (some ⟨rj, 0, none⟩), .pointer (some ⟨rm, 0, none⟩)] w fun v w2 => ∃ f', v = .bool (addM (l[j].drop 1) [.str d0, .bool d1, .ints dz]).1 /\ OwnRows w2 B T_impl_Acct 4 p n c (l.set j (l[j].take 1 ++ (addM (l[j].drop 1) [.str d0, .bool d1, .ints dz]).2)) f' /\ (∀ q ∈ f', q ∈ f ∨ w.heap.size <= q) /\ Blk w2 r e [.int .i32 1, .int .u32 0, .slice p n c] /\ Chg (p.map (·.block)).toList w w2 := by
  have hln := ho.1
  obtain ⟨b, _, _, _, hpb, _⟩ := ho.put (List.getElem?_eq_getElem hj)
  subst hpb
  obtain ⟨m0, m1, kp, kn, kc, mz, hbB, hbl, hbf, hrow, hld, hrep, hput⟩ := acct_row ho hj (hc _ (List.getElem_mem hj)) (by kernel_rfl)
  have hadd : addM (l[j].drop 1) [.str d0, .bool d1, .ints dz] = mres (alk [.str m0, .bool m1, .ints mz] [.str d0, .bool d1, .ints dz]) m0 (ival [.bool m1, .ints mz] + ival [.bool d1, .ints dz]) := by rw [hrow]; rfl
  rw [hadd]
  have d := Ext.drew w
  refine impl_BookPost_1_ret ?_
  unfold impl_BookPost_1
  refine ⟨_, _, _, fun V hV => (hb.ext (d.trans hV)).loadAt 2 rfl (by kernel_rfl) rfl, _, fun V hV => (hjb.ext (d.trans hV)).loadAt 0 rfl (by kernel_rfl) rfl, ⟨by omega, by omega⟩, _, _, _, _, _, fun V hV => hld V (d.trans hV), _, _, _, _, _, fun V hV => (hmb.ext (d.trans hV)).loadA0 (by kernel_rfl), ?_⟩
  intro ss w4 F1
  have S1 := FlS.first F1 rfl
  have Y4 := d.trans F1.ext
  refine Ret.at (impl_MoneyAdd_n (hrep.ext Y4) (g.ext Y4) (ht.ext (hx0.trans Y4))) ?_
  rintro v w5 ⟨vs, fx, hv, hox, ndx, y5⟩
  subst hv
  obtain ⟨q0, q1, qp, qn, qc, qz, rfl, _, _⟩ := open_Money hox.reps (mres_code _ _ _)
  refine ⟨_, _, _, _, _, _, rfl, ?_⟩
  intro ss1 w6 rf F2 G
  have S2 := (S1.ext y5).step F2
  obtain ⟨hrf1, hrf2, hbk⟩ := S2.blk G rfl
  have hap := FlS.apart S1 F2 G
  have ld := d.le; have lF1 := F1.ext.le; have ly5 := y5.le
  obtain ⟨w7, st7, b7, ch7, sz7⟩ := hbk.storeA0 (P := P) (t := T_impl_Money) (xs := [.string q0, .bool q1, .slice qp qn qc]) (by kernel_rfl) rfl (by simp [Value.oneCell'])
  have hox7 := (hox.ext F2.ext).chg ch7 (fun k hk hm => by have := hox.lt k hk; simp at hm; omega)
  have Y7 : Ext w w7 := ((Y4.trans y5).trans F2.ext).chg ch7 (by simp; omega)
  have D7 := Ext.drew w7
  have Y7' := Y7.trans D7
  refine ⟨w7, st7, _, _, _, fun V hV => (hb.ext (Y7'.trans hV)).loadAt 2 rfl (by kernel_rfl) rfl, _, fun V hV => (hjb.ext (Y7'.trans hV)).loadAt 0 rfl (by kernel_rfl) rfl, _, _, _, _, _, fun V hV => (b7.ext (D7.trans hV)).loadA0 (by kernel_rfl), ⟨by omega, by omega⟩, ?_⟩
  obtain ⟨w9, f9, st9, hor9, ch9, sz9, hf9⟩ := hput _ w7.drew q0 q1 qp qn qc fx Y7' ((hox7.ext D7).mono (by omega)) ndx (fun q hq hm => by have := (hox.lt q hq).1; have := (ho.lt q hm).2; omega)
  exact ⟨w9, st9, f9, rfl, hor9, fun q hq => by
    rcases hf9 q hq with h | h
    · exact .inl h
    · exact .inr (by have := (hox.lt q h).1; omega), (hb.ext Y7').chg ch9 (by simp; exact fun h => hrf (h ▸ hbf)), Y7'.toChg.trans ch9⟩
set_option maxHeartbeats 1000000 in
theorem impl_changed_BookPost_c {w : World} {n c rj rm j : Nat} {p : Option Addr} {l : List (List D0)} {d0 : ByteArray} {d1 : Bool} {dp : Option Addr} {dn dc : Nat} {dz : List Int} (ht : Tab w) (h : RowsR w 4 p n c l) (hc : ∀ x ∈ l, x.map D0.code = [.str, .str, .bool, .ints]) (hn : n <= 1000) (hbk : ∀ x ∈ l, bulks x <= 4194304) (hj : j < l.length)
    (hjb : Blk w rj T_int [.int .i64 (j : Int)]) (hmb : Blk w rm T_impl_Money [.string d0, .bool d1, .slice dp dn dc]) (g : Reps w [.string d0, .bool d1, .slice dp dn dc] [.str d0, .bool d1, .ints dz]) :
    Ret P n_impl_changed [.agg ⟨[.slice p n c]⟩, .func (.func 137) #[] #[.pointer (some ⟨rj, 0, none⟩), .pointer (some ⟨rm, 0, none⟩)]] w fun v w' => ∃ p' n' c' f, v = .tuple #[.agg ⟨[.slice p' n' c']⟩, .bool (addM (l[j].drop 1) [.str d0, .bool d1, .ints dz]).1] /\ OwnRows w' w.heap.size T_impl_Acct 4 p' n' c' (if (addM (l[j].drop 1) [.str d0, .bool d1, .ints dz]).1 then (l.set j (l[j].take 1 ++ (addM (l[j].drop 1) [.str d0, .bool d1, .ints dz]).2)) else []) f /\ Ext w w' := by
  have hln := h.1
  refine impl_changed_ret ?_
  unfold impl_changed
  intro r w1 hn1 r1 w2 hn2
  have e1 := hn1.r_eq; have z1 := hn1.size; have e2 := hn2.r_eq; have z2 := hn2.size
  have X2 := hn1.ext.trans hn2.ext
  refine ⟨_, _, _, (hn1.blk.ext hn2.ext).loadA0 (by kernel_rfl), ?_⟩
  refine Ret.at (impl_bookCopy_c (h.ext X2) hc (by omega) hbk) ?_
  rintro v w3 ⟨p3, c3, f3, hv, ho3, y3⟩
  subst hv
  refine ⟨_, _, _, rfl, ?_⟩
  intro r2 w4 hn4
  have e4 := hn4.r_eq; have z4 := hn4.size
  obtain ⟨w5, st5, b5, y5⟩ := hn4.fill (P := P) (t := T_impl_guarded) (xs := [.int .i32 0, .int .u32 0, .slice p3 n c3]) (by simp [Value.oneCell']) (by kernel_rfl) rfl
  have l3 := y3.le; have l5 := y5.le
  refine ⟨w5, st5, ?_⟩
  have X5 := (X2.trans y3).trans y5
  have hr23 : r2 ∉ f3 := fun hm => by have := (ho3.lt r2 hm).2; omega
  have lt5 := b5.lt
  refine Ret.at (P := P) (change_BookPost (Q := fun ok p' n' c' W => ok = (addM (l[j].drop 1) [.str d0, .bool d1, .ints dz]).1 /\ ∃ f', OwnRows W w.heap.size T_impl_Acct 4 p' n' c' (l.set j (l[j].take 1 ++ (addM (l[j].drop 1) [.str d0, .bool d1, .ints dz]).2)) f' /\ r2 ∉ f' /\ r1 ∉ f' /\ Ext w W /\ Blk W r1 T_impl_Book [.slice none 0 0]) b5 ?_) ?_
  · intro w6 b6 ch6 sz6
    have X6 : Ext w w6 := X5.chg ch6 (by simp; omega)
    refine Calls.mono (impl_BookPost_1_c (w0 := w) (f := f3) (B := w.heap.size) ht X6 b6 (((ho3.ext y5).mono (by omega)).chg ch6 (fun q hq hm => by simp at hm; subst hm; exact hr23 hq)) hr23 (by omega) hc hn hj (hjb.ext X6) (hmb.ext X6) (g.ext X6)) ?_
    rintro ed w7 ⟨v, hv, f', hvb, hor, hff, hb7, C7⟩
    subst hv
    subst hvb
    have hp3 : ∀ q ∈ (p3.map (·.block)).toList, w2.heap.size <= q := fun q hq => by
      obtain ⟨_, _, _, _, _, hf, _⟩ := id ho3
      exact (ho3.lt q (by rw [hf]; exact List.mem_append_left _ hq)).1
    refine ⟨_, p3, n, c3, rfl, ⟨rfl, f', hor, fun hm => ?_, fun hm => ?_, X6.chg C7 (fun q hq => by have := hp3 q hq; omega), ?_⟩, hb7⟩
    · rcases hff r2 hm with h | h
      · exact hr23 h
      · omega
    · rcases hff r1 hm with h | h
      · have := (ho3.lt r1 h).1; omega
      · omega
    · refine ((((hn2.blk.ext y3).ext y5).chg ch6 (by simp; omega))).chg C7 (fun hm => ?_)
      have := hp3 r1 hm; omega
  rintro v w7 ⟨ok, p', n', c', w8, hv, ⟨hok, f', hor, hrf, hr1f, hx8, hb18⟩, ch7, sz7, b7⟩
  subst hv
  subst hok
  have X7 : Ext w w7 := hx8.chg ch7 (by simp; omega)
  have hor7 := hor.chg ch7 (fun q hq hm => by simp at hm; subst hm; exact hrf hq)
  have hb17 := hb18.chg ch7 (by simp; omega)
  refine ⟨_, rfl, ifN (fun hno => ?_) (fun hyes => ?_)⟩
  · obtain ⟨w12, st12, b12, ch12, sz12⟩ := hb17.storeA0 (P := P) (t := T_impl_Book) (xs := [.slice none 0 0]) (by kernel_rfl) rfl (by simp [Value.oneCell'])
    refine ⟨w12, st12, _, _, _, b12.loadA0 (by kernel_rfl), none, 0, 0, [], by rw [hno], ?_, X7.chg ch12 (by simp; omega)⟩
    rw [hno]
    exact rows0 _ _ _ _
  · have hl1 := hb17.lt
    obtain ⟨w12, st12, b12, ch12, sz12⟩ := hb17.storeA0 (P := P) (t := T_impl_Book) (xs := [.slice p' n' c']) (by kernel_rfl) rfl (by simp [Value.oneCell'])
    refine ⟨_, _, _, b7.loadAAt 2 [.slice p' n' c'] rfl (by kernel_rfl) rfl, w12, st12, _, _, _, b12.loadA0 (by kernel_rfl), p', n', c', f', by rw [hyes], ?_, X7.chg ch12 (by simp; omega)⟩
    rw [hyes, if_pos rfl]
    exact hor7.chg ch12 (fun q hq hm => by simp at hm; subst hm; exact hr1f hq)
theorem postT_no {l : List (List D0)} {name : ByteArray} {m : List D0} (h : postOk l name m = false) : postT l name m = [] := by unfold postT; rw [h]; rfl
theorem postT_yes {l : List (List D0)} {name : ByteArray} {m : List D0} {j : Nat} (h1 : bookOk l = true) (hj : j < l.length) (h2 : acctAt l name = j) (h3 : rowAt l name = l[j]) : postOk l name m = (addM (l[j].drop 1) m).1 /\ postT l name m = if (addM (l[j].drop 1) m).1 then l.set j (l[j].take 1 ++ (addM (l[j].drop 1) m).2) else [] := by
  have : postOk l name m = (addM (l[j].drop 1) m).1 := by unfold postOk; rw [h1, h3, decide_eq_true (by omega)]; rfl
  refine ⟨this, ?_⟩
  unfold postT postL
  rw [this, h3, h2, Int.toNat_natCast]
set_option maxHeartbeats 1000000 in
theorem impl_BookPost_o {w : World} {p : Option Addr} {n c : Nat} {l : List (List D0)} (h : RowsR w 4 p n c l) (hc : ∀ x ∈ l, x.map D0.code = [.str, .str, .bool, .ints]) (hn : n <= 1048576) (hb : ∀ x ∈ l, bulks x <= 4194304) (name : ByteArray) {ys : List Value} {dm : List D0} (g : Reps w ys dm) (gc : dm.map D0.code = [.str, .bool, .ints]) (gb : bulks dm <= 100000000) (ht : Tab w) :
    Ret P n_impl_BookPost [.agg ⟨[.slice p n c]⟩, .string name, .agg ⟨ys⟩] w fun v w' => ∃ p' n' c' f, v = .tuple #[.agg ⟨[.slice p' n' c']⟩, .bool (postOk l name dm)] /\ OwnRows w' w.heap.size T_impl_Acct 4 p' n' c' (postT l name dm) f /\ Ext w w' := by
  have hln := h.1
  have g0 := g
  obtain ⟨d0, d1, dp, dn, dc, dz, rfl, rfl, _⟩ := open_Money g gc
  refine impl_BookPost_ret ?_
  unfold impl_BookPost
  intro r w1 hn1 r1 w2 hn2 r2 w3 hn3
  have e1 := hn1.r_eq; have z1 := hn1.size; have e2 := hn2.r_eq; have z2 := hn2.size; have e3 := hn3.r_eq; have z3 := hn3.size
  have Y1 := hn2.ext.trans hn3.ext
  have X3 := hn1.ext.trans Y1
  have b0 := hn1.blk.ext Y1
  have b1 := hn2.blk.ext hn3.ext
  have b2 := hn3.blk
  have lt2 := b2.lt
  refine ⟨_, _, _, b0.loadA0 (by kernel_rfl), ?_⟩
  refine Ret.at (impl_AcctAt_c (h.ext X3) hc name) ?_
  rintro v w4 ⟨hv, y4⟩
  subst hv
  refine ⟨_, rfl, ?_⟩
  intro r3 w5 hn5
  have e5 := hn5.r_eq; have z5 := hn5.size
  obtain ⟨w6, st6, b6, ch6, sz6⟩ := hn5.blk.store0 (P := P) (t := T_int) (k := 0) (v := .int .i64 (acctAt l name)) (by kernel_rfl) (by simp) rfl
  have l4 := y4.le
  have Y6 : Ext w3 w6 := (y4.trans hn5.ext).chg ch6 (by simp; omega)
  have X6 := X3.trans Y6
  refine ⟨w6, st6, _, _, _, (b0.ext Y6).loadA0 (by kernel_rfl), ?_⟩
  refine Ret.at (impl_BookOk_w (h.ext X6) hc hn hb (ht.ext X6)) ?_
  rintro v w7 ⟨hv, y7⟩
  subst hv
  have Y7 := Y6.trans y7
  have X7 := X3.trans Y7
  have b67 : Blk w7 r3 T_int [.int .i64 (acctAt l name)] := b6.ext y7
  have no : ∀ W, Ext w3 W -> postOk l name [.str d0, .bool d1, .ints dz] = false -> ∃ wv, Stores P T_impl_Book ⟨r2, 0, none⟩ (.agg #[.slice none 0 0]) W wv /\ ∃ p n c, Loads P T_impl_Book ⟨r2, 0, none⟩ (.agg #[.slice p n c]) wv /\ ∃ p' n' c' f, Value.tuple #[.agg #[.slice p n c], .bool false] = .tuple #[.agg ⟨[.slice p' n' c']⟩, .bool (postOk l name [.str d0, .bool d1, .ints dz])] /\ OwnRows wv w.heap.size T_impl_Acct 4 p' n' c' (postT l name [.str d0, .bool d1, .ints dz]) f /\ Ext w wv := fun W hW hno => by
    obtain ⟨w12, st12, b12, ch12, sz12⟩ := (b2.ext hW).storeA0 (P := P) (t := T_impl_Book) (xs := [.slice none 0 0]) (by kernel_rfl) rfl (by simp [Value.oneCell'])
    refine ⟨w12, st12, _, _, _, b12.loadA0 (by kernel_rfl), none, 0, 0, [], by rw [hno], ?_, (X3.trans hW).chg ch12 (by simp; omega)⟩
    rw [postT_no hno]
    exact rows0 _ _ _ _
  refine ⟨_, rfl, ifN (fun hno => ifT (no w7 Y7 (by unfold postOk; rw [hno]; rfl))) (fun hok => ?_)⟩
  have h12 := bookOk_len hok
  refine ⟨_, b67.loadAt 0 rfl (by kernel_rfl) rfl, ifD (fun hlt => no w7 Y7 (by unfold postOk; rw [hok, decide_eq_false (by omega)]; rfl)) (fun hge => ?_)⟩
  obtain ⟨j, hj, h1, h2⟩ := acct_in (show 0 <= acctAt l name by omega)
  obtain ⟨q1, q2⟩ := postT_yes (m := [.str d0, .bool d1, .ints dz]) hok hj h1 h2
  rw [h1] at b67
  refine ⟨_, _, _, (b0.ext Y7).loadA0 (by kernel_rfl), ?_⟩
  refine Ret.at (impl_changed_BookPost_c (ht.ext X7) (h.ext X7) hc (by omega) hb hj b67 (b1.ext Y7) (g0.ext X7)) ?_
  rintro v w8 ⟨p', n', c', f, hv, hor, y8⟩
  subst hv
  have l7 := Y7.le
  obtain ⟨w9, st9, b9, ch9, sz9⟩ := ((b2.ext Y7).ext y8).storeA0 (P := P) (t := T_impl_Book) (xs := [.slice p' n' c']) (by kernel_rfl) rfl (by simp [Value.oneCell'])
  refine ⟨_, _, _, _, rfl, w9, st9, _, _, _, b9.loadA0 (by kernel_rfl), p', n', c', f, by rw [q1], ?_, (X7.trans y8).chg ch9 (by simp; omega)⟩
  rw [q2]
  exact (hor.chg ch9 (fun q hq hm => by have := (hor.lt q hq).1; simp at hm; omega)).mono X7.le
end Go.Proofs.YtbgokfhcgcoipaaGreatDoor
namespace Go.Proofs.YtbgokfhcgcoipaaGreatDoor
open Go Go.Proofs.YtbgokfhcgcoipaaGreatDoor.Sx
set_option maxHeartbeats 1000000 in
theorem spec_BookPost_o {w : World} {p : Option Addr} {n c : Nat} {l : List (List D0)} (h : RowsR w 4 p n c l) (hc : ∀ x ∈ l, x.map D0.code = [.str, .str, .bool, .ints]) (hn : n <= 1048576) (hb : ∀ x ∈ l, bulks x <= 4194304) (name : ByteArray) {ys : List Value} {dm : List D0} (g : Reps w ys dm) (gc : dm.map D0.code = [.str, .bool, .ints]) (gb : bulks dm <= 100000000) :
    Ret P n_spec_BookPost [.agg ⟨[.slice p n c]⟩, .string name, .agg ⟨ys⟩] w fun v w' => ∃ p' n' c' f, v = .tuple #[.agg ⟨[.slice p' n' c']⟩, .bool (postOk l name dm)] /\ OwnRows w' w.heap.size T_impl_Acct 4 p' n' c' (postT l name dm) f /\ Ext w w' := by
  have hln := h.1
  have g0 := g
  obtain ⟨d0, d1, dp, dn, dc, dz, rfl, rfl, _⟩ := open_Money g gc
  refine spec_BookPost_ret ?_
  unfold spec_BookPost
  intro r w1 hn1 r1 w2 hn2 r2 w3 hn3
  have e1 := hn1.r_eq; have z1 := hn1.size; have e2 := hn2.r_eq; have z2 := hn2.size; have e3 := hn3.r_eq; have z3 := hn3.size
  have Y1 := hn2.ext.trans hn3.ext
  have X3 := hn1.ext.trans Y1
  have b0 := hn1.blk.ext Y1
  have b1 := hn2.blk.ext hn3.ext
  have b2 := hn3.blk
  have lt2 := b2.lt
  refine ⟨_, _, _, b0.loadA0 (by kernel_rfl), ?_⟩
  refine Ret.at (spec_AcctAt_c (h.ext X3) hc name) ?_
  rintro v w4 ⟨hv, y4⟩
  subst hv
  refine ⟨_, rfl, _, _, _, (b0.ext y4).loadA0 (by kernel_rfl), ?_⟩
  refine Ret.at (spec_BookOk_w (h.ext (X3.trans y4)) hc hn hb) ?_
  rintro v w7 ⟨hv, y7⟩
  subst hv
  have Y7 := y4.trans y7
  have X7 := X3.trans Y7
  have no : ∀ W, Ext w3 W -> postOk l name [.str d0, .bool d1, .ints dz] = false -> ∃ wv, Stores P T_impl_Book ⟨r2, 0, none⟩ (.agg #[.slice none 0 0]) W wv /\ ∃ p n c, Loads P T_impl_Book ⟨r2, 0, none⟩ (.agg #[.slice p n c]) wv /\ ∃ p' n' c' f, Value.tuple #[.agg #[.slice p n c], .bool false] = .tuple #[.agg ⟨[.slice p' n' c']⟩, .bool (postOk l name [.str d0, .bool d1, .ints dz])] /\ OwnRows wv w.heap.size T_impl_Acct 4 p' n' c' (postT l name [.str d0, .bool d1, .ints dz]) f /\ Ext w wv := fun W hW hno => by
    obtain ⟨w12, st12, b12, ch12, sz12⟩ := (b2.ext hW).storeA0 (P := P) (t := T_impl_Book) (xs := [.slice none 0 0]) (by kernel_rfl) rfl (by simp [Value.oneCell'])
    refine ⟨w12, st12, _, _, _, b12.loadA0 (by kernel_rfl), none, 0, 0, [], by rw [hno], ?_, (X3.trans hW).chg ch12 (by simp; omega)⟩
    rw [postT_no hno]
    exact rows0 _ _ _ _
  refine ⟨_, rfl, ifN (fun hno => ifT (no w7 Y7 (by unfold postOk; rw [hno]; rfl))) (fun hok => ?_)⟩
  have h12 := bookOk_len hok
  refine ifD (fun hlt => no w7 Y7 (by unfold postOk; rw [hok, decide_eq_false (by omega)]; rfl)) (fun hge => ?_)
  obtain ⟨j, hj, h1, h2⟩ := acct_in (show 0 <= acctAt l name by omega)
  obtain ⟨q1, q2⟩ := postT_yes (m := [.str d0, .bool d1, .ints dz]) hok hj h1 h2
  rw [h1]
  have d := Ext.drew w7
  have Y8 := Y7.trans d
  obtain ⟨bl, off, hpp, hs⟩ := (h.ext X7).2.2.2 (by omega)
  subst hpp
  obtain ⟨cs, hk, hr, hsg⟩ := hs j _ (List.getElem?_eq_getElem hj)
  obtain ⟨k0, m0, m1, kp, kn, kc, mz, rfl, hkd, hki⟩ := open_Acct hr (hc _ (List.getElem_mem hj))
  have hrow : l[j].drop 1 = [.str m0, .bool m1, .ints mz] := by rw [hkd]; rfl
  have hadd : addM (l[j].drop 1) [.str d0, .bool d1, .ints dz] = mres (alk [.str m0, .bool m1, .ints mz] [.str d0, .bool d1, .ints dz]) m0 (ival [.bool m1, .ints mz] + ival [.bool d1, .ints dz]) := by rw [hrow]; rfl
  have hrep : Reps w7 [.string m0, .bool m1, .slice kp kn kc] [.str m0, .bool m1, .ints mz] := ⟨rfl, rfl, ⟨_, _, _, rfl, hki⟩, trivial⟩
  unfold spec_BookPost_j0
  refine ⟨_, _, _, fun V hV => ((b0.ext Y8).ext hV).loadAt 0 rfl (by kernel_rfl) rfl, ⟨by omega, by omega⟩, _, _, _, _, _, fun V hV => by rw [addr_add, addr_add, Int.toNat_natCast]; exact ((hsg.ext d).ext hV).loadAAt 1 [.string m0, .bool m1, .slice kp kn kc] rfl (by kernel_rfl) rfl, _, _, _, _, _, fun V hV => ((b1.ext Y8).ext hV).loadA0 (by kernel_rfl), ?_⟩
  intro ss w8 F1
  have S1 := FlS.first F1 rfl
  have Z8 := d.trans F1.ext
  refine Ret.at (spec_MoneyAdd_n (hrep.ext Z8) (g0.ext (X7.trans Z8))) ?_
  rintro v w9 ⟨vs, fx, hv, hox, ndx, y9⟩
  subst hv
  obtain ⟨a0, a1, ap, an, ac, az, rfl, _, _⟩ := open_Money hox.reps (mres_code _ _ _)
  refine ⟨_, _, _, _, _, _, rfl, ?_⟩
  intro ss1 w10 rf F2 G
  have S2 := (S1.ext y9).step F2
  obtain ⟨hrf1, hrf2, hbk⟩ := S2.blk G rfl
  have hap := FlS.apart S1 F2 G
  have ld := d.le; have lF1 := F1.ext.le; have ly9 := y9.le; have lY7 := Y7.le
  obtain ⟨w11, st11, b11, ch11, sz11⟩ := hbk.storeA0 (P := P) (t := T_impl_Money) (xs := [.string a0, .bool a1, .slice ap an ac]) (by kernel_rfl) rfl (by simp [Value.oneCell'])
  have hox11 := (hox.ext F2.ext).chg ch11 (fun k hk hm => by have := hox.lt k hk; simp at hm; omega)
  have Y11 : Ext w7 w11 := ((Z8.trans y9).trans F2.ext).chg ch11 (by simp; omega)
  have X11 := X7.trans Y11
  rw [<- hadd] at hox11
  refine ⟨w11, st11, ifN (fun hno => ?_) (fun hyes => ?_)⟩
  · rw [<- hadd] at hno
    exact no w11 (Y7.trans Y11) (by rw [q1, hno])
  rw [<- hadd] at hyes
  refine ⟨_, _, _, ((b0.ext Y7).ext Y11).loadA0 (by kernel_rfl), ?_⟩
  refine Ret.at (spec_l17Copy_c (h.ext X11) hc (by omega) hb) ?_
  rintro v w12 ⟨p3, c3, f3, hv, ho3, y12⟩
  subst hv
  refine ⟨_, _, _, rfl, ?_⟩
  intro r4 w13 hn13
  have e13 := hn13.r_eq; have z13 := hn13.size
  obtain ⟨w14, st14, b14, y14⟩ := hn13.fill (P := P) (t := T_impl_Book) (xs := [.slice p3 n c3]) (by simp [Value.oneCell']) (by kernel_rfl) rfl
  have Y14 := y12.trans y14
  have ho14 := ho3.ext y14
  obtain ⟨b, _, _, _, hpb, _⟩ := ho14.put (List.getElem?_eq_getElem hj)
  subst hpb
  obtain ⟨_, _, _, _, _, _, hbB, hbl, hbf, _, _, _, hput⟩ := acct_row (ho14.mono (B' := w.heap.size) (by have := X11.le; omega)) hj (hc _ (List.getElem_mem hj)) (by kernel_rfl)
  have lY14 := Y14.le; have l12 := y12.le; have l14 := y14.le
  have hfx : ∀ q ∈ fx, q < w11.heap.size := fun q hq => (hox11.lt q hq).2
  refine ⟨w14, st14, _, _, _, b14.loadAt 0 rfl (by kernel_rfl) rfl, _, _, _, _, _, (b11.ext Y14).loadA0 (by kernel_rfl), ⟨by omega, by omega⟩, ?_⟩
  obtain ⟨w15, f15, st15, hor15, ch15, sz15, hf15⟩ := hput _ w14 a0 a1 ap an ac fx (Ext.refl _) ((hox11.ext Y14).mono (by omega)) ndx (fun q hq hm => by have := hfx q hq; have := (ho3.lt q hm).1; omega)
  have X14 := X11.trans Y14
  have h3l := ho3.lt
  have hbw : w11.heap.size <= b := (ho3.lt b hbf).1
  have X15 : Ext w w15 := X14.chg ch15 (by simp; omega)
  have hb2 : Blk w15 r2 T_impl_Book [.slice none 0 0] := (((b2.ext Y7).ext Y11).ext Y14).chg ch15 (by have := X11.le; have := Y11.le; simp; omega)
  obtain ⟨w16, st16, b16, ch16, sz16⟩ := hb2.storeA0 (P := P) (t := T_impl_Book) (xs := [.slice (some ⟨b, 0, none⟩) n c3]) (by kernel_rfl) rfl (by simp [Value.oneCell'])
  refine ⟨w15, st15, _, _, _, (b14.chg ch15 (by have := h3l b hbf; simp; omega)).loadA0 (by kernel_rfl), w16, st16, _, _, _, b16.loadA0 (by kernel_rfl), _, _, _, f15, by rw [q1, hyes], ?_, X15.chg ch16 (by simp; omega)⟩
  rw [q2, hyes, if_pos rfl]
  exact hor15.chg ch16 (fun q hq hm => by
    simp at hm; subst hm
    rcases hf15 q hq with h | h
    · have := (h3l q h).1; have := Y11.le; omega
    · have := (hox.lt q h).1; omega)
end Go.Proofs.YtbgokfhcgcoipaaGreatDoor
namespace Go.Proofs.YtbgokfhcgcoipaaGreatDoor
open Go Go.Proofs.YtbgokfhcgcoipaaGreatDoor.Sx
theorem impl_BookPost_c {w : World} {p : Option Addr} {n c : Nat} {l : List (List D0)} (h : RowsR w 4 p n c l) (hc : ∀ x ∈ l, x.map D0.code = [.str, .str, .bool, .ints]) (hn : n <= 1048576) (hb : ∀ x ∈ l, bulks x <= 1048576) (name : ByteArray) {ys : List Value} {dm : List D0} (g : Reps w ys dm) (gc : dm.map D0.code = [.str, .bool, .ints]) (gb : bulks dm <= 100000000) (ht : Tab w) :
    Ret P n_impl_BookPost [.agg ⟨[.slice p n c]⟩, .string name, .agg ⟨ys⟩] w fun v w' => ∃ p' n' c' f, v = .tuple #[.agg ⟨[.slice p' n' c']⟩, .bool (postOk l name dm)] /\ OwnRows w' w.heap.size T_impl_Acct 4 p' n' c' (postT l name dm) f /\ (∀ x ∈ postT l name dm, x.map D0.code = [.str, .str, .bool, .ints]) /\ cntL (postT l name dm) <= 1000000000 /\ Ext w w' :=
  (impl_BookPost_o h hc hn (wide hb) name g gc gb ht).mono fun v w' ⟨p', n', c', f, hv, ho, hx⟩ => ⟨p', n', c', f, hv, ho, postT_code hc name dm, postT_cnt hc name dm, hx⟩
end Go.Proofs.YtbgokfhcgcoipaaGreatDoor
namespace Go.Proofs.YtbgokfhcgcoipaaGreatDoor
open Go Go.Proofs.YtbgokfhcgcoipaaGreatDoor.Sx
set_option maxHeartbeats 1000000 in
theorem impl_BookOpen_1_c {w0 w : World} {B r n c rn rc : Nat} {e : TypeId} {p : Option Addr} {l : List (List D0)} {f : List Nat} {name cur : ByteArray} (ht : Tab w0) (hx0 : Ext w0 w) (hB0 : w0.heap.size <= B) (hr0 : w0.heap.size <= r)
    (hb : Blk w r e [.int .i32 1, .int .u32 0, .slice p n c]) (ho : OwnRows w B T_impl_Acct 4 p n c l f) (hrf : r ∉ f) (hB : B <= w.heap.size) (hc : ∀ x ∈ l, x.map D0.code = [.str, .str, .bool, .ints]) (hn : n <= 1000) (hbk : ∀ x ∈ l, bulks x <= 1048576)
    (hnm : Blk w rn T_string [.string name]) (hcr : Blk w rc T_string [.string cur]) (s1 : name.size <= 1048576) (s2 : cur.size <= 1048576) :
    Ret P n_impl_BookOpen_1 [.pointer (some ⟨r, 2, none⟩), .pointer (some ⟨rn, 0, none⟩), .pointer (some ⟨rc, 0, none⟩)] w fun v w2 => ∃ p' c' f', v = .bool (bookOk (openL l name cur)) /\ OwnRows w2 B T_impl_Acct 4 p' (n + 1) c' (openL l name cur) f' /\ (∀ q ∈ f', q ∈ f ∨ w.heap.size <= q) /\ Blk w2 r e [.int .i32 1, .int .u32 0, .slice p' (n + 1) c'] /\ Chg (r :: (p.map (·.block)).toList) w w2 := by
  have hln := ho.1
  refine impl_BookOpen_1_ret ?_
  unfold impl_BookOpen_1
  refine ⟨fun i wv => ∃ j : Nat, i = j /\ j <= n /\ (∀ a (x : List D0), l[a]? = some x -> a < j -> Op.bytesLess (strOf x).toList name.toList = true) /\ Ext w wv, fun i _ => n - i.toNat, ⟨0, rfl, by omega, fun a x _ ha => absurd ha (by omega), Ext.refl w⟩, ?_⟩
  intro junk wv atv ⟨j, hj, hjn, hless, hx⟩
  subst hj
  have d1 := Ext.drew wv
  refine ⟨_, _, _, fun V hV => (hb.ext (hx.trans (d1.trans hV))).loadAt 2 rfl (by kernel_rfl) rfl, ifD (fun hlt => ?_) (fun hge => ⟨fun h => absurd h (by simp), fun _ => ?_⟩)⟩
  · have hjl : j < l.length := by omega
    obtain ⟨b1, xs1, cs1, zs1, hpb, _, _, hxl, hcl, hblk, hrep, _⟩ := ho.put (List.getElem?_eq_getElem hjl)
    obtain ⟨a0, a1, a2, a3p, a3n, a3c, a3z, rfl, hd, _⟩ := open_Acct hrep (hc _ (List.getElem_mem hjl))
    have hs0 : strOf l[j] = a0 := by rw [hd]; rfl
    subst hpb
    refine ⟨_, _, _, fun V hV => (hb.ext (hx.trans (d1.trans hV))).loadAt 2 rfl (by kernel_rfl) rfl, ⟨by omega, by omega⟩, _, fun V hV => (hblk.ext (hx.trans (d1.trans hV))).loadAt (j * 4) (by rw [addr_add, addr_add, Nat.zero_add, Nat.add_zero, Int.toNat_natCast]) (by kernel_rfl) (by rw [List.append_assoc, <- hxl, List.getElem?_append_right (Nat.le_refl _), Nat.sub_self]; rfl), _, fun V hV => (hnm.ext (hx.trans (d1.trans hV))).loadAt 0 rfl (by kernel_rfl) rfl, fun hl => ?_, fun hnl => ?_⟩
    · refine exW ⟨by omega, by omega⟩ ⟨⟨j + 1, rfl, by omega, fun a y hy ha => ?_, hx.trans d1⟩, by show n - ((j : Int) + 1).toNat < n - (j : Int).toNat; omega⟩
      by_cases hak : a < j
      · exact hless a y hy hak
      · have : a = j := by omega
        subst this
        rw [List.getElem?_eq_getElem hjl] at hy
        simp only [Option.some.injEq] at hy
        rw [<- hy, hs0]; exact hl
    · have hpos : j = acAt l name := acAt_unique (by omega) hless (fun y hy => by
        rw [List.getElem?_eq_getElem hjl] at hy
        simp only [Option.some.injEq] at hy
        rw [<- hy, hs0]; exact hnl)
      have hopen : openL l name cur = l.take j ++ openRow name cur :: l.drop j := by unfold openL; rw [<- hpos]
      have d2 := (Ext.drew wv).trans (Ext.drew wv.drew)
      refine ⟨_, _, _, fun V hV => (hb.ext (hx.trans (d2.trans hV))).loadAt 2 rfl (by kernel_rfl) rfl, _, fun V hV => (hnm.ext (hx.trans (d2.trans hV))).loadAt 0 rfl (by kernel_rfl) rfl, _, fun V hV => (hcr.ext (hx.trans (d2.trans hV))).loadAt 0 rfl (by kernel_rfl) rfl, ?_⟩
      intro r5 w8 hn8
      have e8 := hn8.r_eq; have z8 := hn8.size
      have X8 := (hx.trans d2).trans hn8.ext
      have lX := (hx.trans d2).le
      have lX8 := X8.le
      obtain ⟨xs, hown, h1, hins⟩ := (ho.ext X8).ins (i := j) hjn
      have hpl : ∀ q ∈ ((some (⟨b1, 0, none⟩ : Addr)).map (·.block)).toList, q < w.heap.size /\ q ∈ f /\ B <= q := fun q hq => by
        obtain ⟨_, _, _, _, _, hf, _⟩ := id ho
        have hm : q ∈ f := by rw [hf]; exact List.mem_append_left _ hq
        exact ⟨(ho.lt q hm).2, hm, (ho.lt q hm).1⟩
      refine ⟨hn8.ext, ?_⟩
      refine Ret.at (ins_Acct_c hown h1 hn8.blk rfl (by simp [Value.oneCell']) (fun e => by have := (hpl r5 (by rw [e]; simp)).1; omega) hjn (by omega) (by omega)) ?_
      rintro v w9 ⟨p', c', hv, how, hch, hpp⟩
      subst hv
      refine ⟨_, _, _, rfl, ?_⟩
      obtain ⟨f', hor, hf'⟩ := hins w9 p' c' _ (openRow name cur) [] how hch hpp rfl (own_openRow _ _ name cur) List.nodup_nil (by simp) (by simp)
      rw [<- hopen] at hor
      have hrp : r ∉ ((some (⟨b1, 0, none⟩ : Addr)).map (·.block)).toList := fun hm => hrf (hpl r hm).2.1
      have hr9 := (hb.ext X8).chg hch hrp
      have hlr := hb.lt
      have hrf' : r ∉ f' := fun hm => by
        rcases hf' r hm with h | h | h
        · exact hrf h
        · simp at h
        · omega
      obtain ⟨w10, st10, b10, ch10, sz10⟩ := hr9.store (P := P) (t := T_s_impl_Acct) (k := 2) (v := .slice p' (n + 1) c') (by kernel_rfl) (by simp) rfl
      rw [addr_add, Nat.zero_add] at st10
      refine ⟨w10, st10, _, _, _, b10.loadAAt 2 [.slice p' (n + 1) c'] rfl (by kernel_rfl) rfl, ?_⟩
      have hor10 := hor.chg ch10 (fun q hq hm => by simp at hm; subst hm; exact hrf' hq)
      have lc9 := hch.size
      have C10 : Chg (r :: ((some (⟨b1, 0, none⟩ : Addr)).map (·.block)).toList) w w10 := (X8.toChg.trans (hch.mono (fun k hk => List.mem_cons_of_mem _ hk))).trans (ch10.mono (fun k hk => by simp at hk; simp [hk]))
      have X10 : Ext w0 w10 := hx0.chg C10 (fun q hq => by
        rcases List.mem_cons.1 hq with rfl | hq
        · exact hr0
        · exact Nat.le_trans hB0 (hpl q hq).2.2)
      refine Ret.at (impl_BookOk_w hor10.rows (openL_code hc name cur) (by omega) (openL_bulk hbk s1 s2) (ht.ext X10)) ?_
      rintro v w11 ⟨hv, y11⟩
      subst hv
      exact ⟨_, rfl, p', c', f', rfl, hor10.ext y11, fun q hq => by
        rcases hf' q hq with h | h | h
        · exact .inl h
        · simp at h
        · exact .inr (by omega), b10.ext y11, C10.trans y11.toChg⟩
  · have hpos : j = acAt l name := acAt_unique (by omega) hless (fun y hy => by
      rw [List.getElem?_eq_none (by omega)] at hy; cases hy)
    have hopen : openL l name cur = l.take j ++ openRow name cur :: l.drop j := by unfold openL; rw [<- hpos]
    have d2 := (Ext.drew wv).trans (Ext.drew wv.drew)
    refine ⟨_, _, _, fun V hV => (hb.ext (hx.trans (d2.trans hV))).loadAt 2 rfl (by kernel_rfl) rfl, _, fun V hV => (hnm.ext (hx.trans (d2.trans hV))).loadAt 0 rfl (by kernel_rfl) rfl, _, fun V hV => (hcr.ext (hx.trans (d2.trans hV))).loadAt 0 rfl (by kernel_rfl) rfl, ?_⟩
    intro r5 w8 hn8
    have e8 := hn8.r_eq; have z8 := hn8.size
    have X8 := (hx.trans d2).trans hn8.ext
    have lX := (hx.trans d2).le
    have lX8 := X8.le
    obtain ⟨xs, hown, h1, hins⟩ := (ho.ext X8).ins (i := j) hjn
    have hpl : ∀ q ∈ (p.map (·.block)).toList, q < w.heap.size /\ q ∈ f /\ B <= q := fun q hq => by
      obtain ⟨_, _, _, _, _, hf, _⟩ := id ho
      have hm : q ∈ f := by rw [hf]; exact List.mem_append_left _ hq
      exact ⟨(ho.lt q hm).2, hm, (ho.lt q hm).1⟩
    refine ⟨hn8.ext, ?_⟩
    refine Ret.at (ins_Acct_c hown h1 hn8.blk rfl (by simp [Value.oneCell']) (fun e => by have := (hpl r5 (by rw [e]; simp)).1; omega) hjn (by omega) (by omega)) ?_
    rintro v w9 ⟨p', c', hv, how, hch, hpp⟩
    subst hv
    refine ⟨_, _, _, rfl, ?_⟩
    obtain ⟨f', hor, hf'⟩ := hins w9 p' c' _ (openRow name cur) [] how hch hpp rfl (own_openRow _ _ name cur) List.nodup_nil (by simp) (by simp)
    rw [<- hopen] at hor
    have hrp : r ∉ (p.map (·.block)).toList := fun hm => hrf (hpl r hm).2.1
    have hr9 := (hb.ext X8).chg hch hrp
    have hlr := hb.lt
    have hrf' : r ∉ f' := fun hm => by
      rcases hf' r hm with h | h | h
      · exact hrf h
      · simp at h
      · omega
    obtain ⟨w10, st10, b10, ch10, sz10⟩ := hr9.store (P := P) (t := T_s_impl_Acct) (k := 2) (v := .slice p' (n + 1) c') (by kernel_rfl) (by simp) rfl
    rw [addr_add, Nat.zero_add] at st10
    refine ⟨w10, st10, _, _, _, b10.loadAAt 2 [.slice p' (n + 1) c'] rfl (by kernel_rfl) rfl, ?_⟩
    have hor10 := hor.chg ch10 (fun q hq hm => by simp at hm; subst hm; exact hrf' hq)
    have lc9 := hch.size
    have C10 : Chg (r :: (p.map (·.block)).toList) w w10 := (X8.toChg.trans (hch.mono (fun k hk => List.mem_cons_of_mem _ hk))).trans (ch10.mono (fun k hk => by simp at hk; simp [hk]))
    have X10 : Ext w0 w10 := hx0.chg C10 (fun q hq => by
      rcases List.mem_cons.1 hq with rfl | hq
      · exact hr0
      · exact Nat.le_trans hB0 (hpl q hq).2.2)
    refine Ret.at (impl_BookOk_w hor10.rows (openL_code hc name cur) (by omega) (openL_bulk hbk s1 s2) (ht.ext X10)) ?_
    rintro v w11 ⟨hv, y11⟩
    subst hv
    exact ⟨_, rfl, p', c', f', rfl, hor10.ext y11, fun q hq => by
      rcases hf' q hq with h | h | h
      · exact .inl h
      · simp at h
      · exact .inr (by omega), b10.ext y11, C10.trans y11.toChg⟩
set_option maxHeartbeats 1000000 in
theorem impl_changed_BookOpen_c {w : World} {n c rn rc : Nat} {p : Option Addr} {l : List (List D0)} {name cur : ByteArray} (ht : Tab w) (h : RowsR w 4 p n c l) (hc : ∀ x ∈ l, x.map D0.code = [.str, .str, .bool, .ints]) (hn : n <= 1000) (hbk : ∀ x ∈ l, bulks x <= 1048576)
    (hnm : Blk w rn T_string [.string name]) (hcr : Blk w rc T_string [.string cur]) (s1 : name.size <= 1048576) (s2 : cur.size <= 1048576) :
    Ret P n_impl_changed [.agg ⟨[.slice p n c]⟩, .func (.func 135) #[] #[.pointer (some ⟨rn, 0, none⟩), .pointer (some ⟨rc, 0, none⟩)]] w fun v w' => ∃ p' n' c' f, v = .tuple #[.agg ⟨[.slice p' n' c']⟩, .bool (bookOk (openL l name cur))] /\ OwnRows w' w.heap.size T_impl_Acct 4 p' n' c' (if bookOk (openL l name cur) then openL l name cur else []) f /\ Ext w w' := by
  have hln := h.1
  refine impl_changed_ret ?_
  unfold impl_changed
  intro r w1 hn1 r1 w2 hn2
  have e1 := hn1.r_eq; have z1 := hn1.size; have e2 := hn2.r_eq; have z2 := hn2.size
  have X2 := hn1.ext.trans hn2.ext
  refine ⟨_, _, _, (hn1.blk.ext hn2.ext).loadA0 (by kernel_rfl), ?_⟩
  refine Ret.at (impl_bookCopy_c (h.ext X2) hc (by omega) (wide hbk)) ?_
  rintro v w3 ⟨p3, c3, f3, hv, ho3, y3⟩
  subst hv
  refine ⟨_, _, _, rfl, ?_⟩
  intro r2 w4 hn4
  have e4 := hn4.r_eq; have z4 := hn4.size
  obtain ⟨w5, st5, b5, y5⟩ := hn4.fill (P := P) (t := T_impl_guarded) (xs := [.int .i32 0, .int .u32 0, .slice p3 n c3]) (by simp [Value.oneCell']) (by kernel_rfl) rfl
  have l3 := y3.le; have l5 := y5.le
  refine ⟨w5, st5, ?_⟩
  have X5 := (X2.trans y3).trans y5
  have hr23 : r2 ∉ f3 := fun hm => by have := (ho3.lt r2 hm).2; omega
  refine Ret.at (P := P) (change_BookOpen (Q := fun ok p' n' c' W => ok = bookOk (openL l name cur) /\ ∃ f', OwnRows W w.heap.size T_impl_Acct 4 p' n' c' (openL l name cur) f' /\ r2 ∉ f' /\ r1 ∉ f' /\ Ext w W /\ Blk W r1 T_impl_Book [.slice none 0 0]) b5 ?_) ?_
  · intro w6 b6 ch6 sz6
    have X6 : Ext w w6 := X5.chg ch6 (by simp; omega)
    have lt5 := b5.lt
    refine Calls.mono (impl_BookOpen_1_c (w0 := w) (f := f3) ht X6 (Nat.le_refl _) (by omega) b6 (((ho3.ext y5).mono (by omega)).chg ch6 (fun q hq hm => by simp at hm; subst hm; exact hr23 hq)) hr23 (by omega) hc hn hbk ((hnm.ext X5).chg ch6 (by have := hnm.lt; simp; omega)) ((hcr.ext X5).chg ch6 (by have := hcr.lt; simp; omega)) s1 s2) ?_
    rintro ed w7 ⟨v, hv, p', c', f', hvb, hor, hff, hb7, C7⟩
    subst hv
    subst hvb
    refine ⟨_, p', n + 1, c', rfl, ⟨rfl, f', hor, fun hm => ?_, fun hm => ?_, X6.chg C7 (fun q hq => ?_), ?_⟩, hb7⟩
    · rcases hff r2 hm with h | h
      · exact hr23 h
      · omega
    · rcases hff r1 hm with h | h
      · have := (ho3.lt r1 h).1; omega
      · omega
    · rcases List.mem_cons.1 hq with rfl | hq
      · omega
      · obtain ⟨_, _, _, _, _, hf, _⟩ := id ho3
        have := (ho3.lt q (by rw [hf]; exact List.mem_append_left _ hq)).1
        omega
    · refine ((((hn2.blk.ext y3).ext y5).chg ch6 (by simp; omega))).chg C7 (fun hm => ?_)
      rcases List.mem_cons.1 hm with hm | hm
      · omega
      · obtain ⟨_, _, _, _, _, hf, _⟩ := id ho3
        have := (ho3.lt r1 (by rw [hf]; exact List.mem_append_left _ hm)).1
        omega
  rintro v w7 ⟨ok, p', n', c', w8, hv, ⟨hok, f', hor, hrf, hr1f, hx8, hb18⟩, ch7, sz7, b7⟩
  subst hv
  subst hok
  have X7 : Ext w w7 := hx8.chg ch7 (by simp; omega)
  have hor7 := hor.chg ch7 (fun q hq hm => by simp at hm; subst hm; exact hrf hq)
  have hb17 := hb18.chg ch7 (by simp; omega)
  refine ⟨_, rfl, ifN (fun hno => ?_) (fun hyes => ?_)⟩
  · obtain ⟨w12, st12, b12, ch12, sz12⟩ := hb17.storeA0 (P := P) (t := T_impl_Book) (xs := [.slice none 0 0]) (by kernel_rfl) rfl (by simp [Value.oneCell'])
    refine ⟨w12, st12, _, _, _, b12.loadA0 (by kernel_rfl), none, 0, 0, [], by rw [hno], ?_, X7.chg ch12 (by simp; omega)⟩
    rw [hno]
    exact rows0 _ _ _ _
  · have hl1 := hb17.lt
    obtain ⟨w12, st12, b12, ch12, sz12⟩ := hb17.storeA0 (P := P) (t := T_impl_Book) (xs := [.slice p' n' c']) (by kernel_rfl) rfl (by simp [Value.oneCell'])
    refine ⟨_, _, _, b7.loadAAt 2 [.slice p' n' c'] rfl (by kernel_rfl) rfl, w12, st12, _, _, _, b12.loadA0 (by kernel_rfl), p', n', c', f', by rw [hyes], ?_, X7.chg ch12 (by simp; omega)⟩
    rw [hyes, if_pos rfl]
    exact hor7.chg ch12 (fun q hq hm => by simp at hm; subst hm; exact hr1f hq)
end Go.Proofs.YtbgokfhcgcoipaaGreatDoor
namespace Go.Proofs.YtbgokfhcgcoipaaGreatDoor
open Go Go.Proofs.YtbgokfhcgcoipaaGreatDoor.Sx
theorem openT_no {l : List (List D0)} {name cur : ByteArray} (h : openOk l name cur = false) : openT l name cur = [] := by unfold openT; rw [h]; rfl
theorem openT_yes {l : List (List D0)} {name cur : ByteArray} (h1 : bookOk l = true) (h2 : acctAt l name < 0) : openOk l name cur = bookOk (openL l name cur) /\ openT l name cur = if bookOk (openL l name cur) then openL l name cur else [] := by
  have : openOk l name cur = bookOk (openL l name cur) := by unfold openOk; rw [h1, decide_eq_true h2]; rfl
  exact ⟨this, by unfold openT; rw [this]⟩
set_option maxHeartbeats 1000000 in
theorem impl_BookOpen_o {w : World} {p : Option Addr} {n c : Nat} {l : List (List D0)} (h : RowsR w 4 p n c l) (hc : ∀ x ∈ l, x.map D0.code = [.str, .str, .bool, .ints]) (hn : n <= 1048576) (hb : ∀ x ∈ l, bulks x <= 1048576) (name : ByteArray) (s1 : name.size <= 1048576) (cur : ByteArray) (s2 : cur.size <= 1048576) (ht : Tab w) :
    Ret P n_impl_BookOpen [.agg ⟨[.slice p n c]⟩, .string name, .string cur] w fun v w' => ∃ p' n' c' f, v = .tuple #[.agg ⟨[.slice p' n' c']⟩, .bool (openOk l name cur)] /\ OwnRows w' w.heap.size T_impl_Acct 4 p' n' c' (openT l name cur) f /\ Ext w w' := by
  have hln := h.1
  refine impl_BookOpen_ret ?_
  unfold impl_BookOpen
  intro r w1 hn1 r1 w2 hn2 r2 w3 hn3 r3 w4 hn4
  have e1 := hn1.r_eq; have z1 := hn1.size; have e2 := hn2.r_eq; have z2 := hn2.size; have e3 := hn3.r_eq; have z3 := hn3.size; have e4 := hn4.r_eq; have z4 := hn4.size
  have Y1 := (hn2.ext.trans hn3.ext).trans hn4.ext
  have X4 := hn1.ext.trans Y1
  have b0 := hn1.blk.ext Y1
  have b1 := hn2.blk.ext (hn3.ext.trans hn4.ext)
  have b2 := hn3.blk.ext hn4.ext
  have b3 := hn4.blk
  refine ⟨_, _, _, b0.loadA0 (by kernel_rfl), ?_⟩
  refine Ret.at (impl_BookOk_c (h.ext X4) hc hn hb (ht.ext X4)) ?_
  rintro v w5 ⟨hv, y5⟩
  subst hv
  have X5 := X4.trans y5
  have no : ∀ W, Ext w4 W -> openOk l name cur = false -> ∃ wv, Stores P T_impl_Book ⟨r3, 0, none⟩ (.agg #[.slice none 0 0]) W wv /\ ∃ p n c, Loads P T_impl_Book ⟨r3, 0, none⟩ (.agg #[.slice p n c]) wv /\ ∃ p' n' c' f, Value.tuple #[.agg #[.slice p n c], .bool false] = .tuple #[.agg ⟨[.slice p' n' c']⟩, .bool (openOk l name cur)] /\ OwnRows wv w.heap.size T_impl_Acct 4 p' n' c' (openT l name cur) f /\ Ext w wv := fun W hW hno => by
    obtain ⟨w12, st12, b12, ch12, sz12⟩ := (b3.ext hW).storeA0 (P := P) (t := T_impl_Book) (xs := [.slice none 0 0]) (by kernel_rfl) rfl (by simp [Value.oneCell'])
    refine ⟨w12, st12, _, _, _, b12.loadA0 (by kernel_rfl), none, 0, 0, [], by rw [hno], ?_, (X4.trans hW).chg ch12 (by simp; omega)⟩
    rw [openT_no hno]
    exact rows0 _ _ _ _
  refine ⟨_, rfl, ifN (fun hno => ifT (no w5 y5 (by unfold openOk; rw [hno]; rfl))) (fun hok => ?_)⟩
  have h12 := bookOk_len hok
  refine ⟨_, _, _, (b0.ext y5).loadA0 (by kernel_rfl), _, (b1.ext y5).loadAt 0 rfl (by kernel_rfl) rfl, ?_⟩
  refine Ret.at (impl_AcctAt_c (h.ext X5) hc name) ?_
  rintro v w6 ⟨hv, y6⟩
  subst hv
  have Y6 := y5.trans y6
  have X6 := X4.trans Y6
  refine ⟨_, rfl, ifD (fun hge => no w6 Y6 (by unfold openOk; rw [hok, decide_eq_false (by omega)]; rfl)) (fun hlt => ?_)⟩
  obtain ⟨q1, q2⟩ := openT_yes (cur := cur) hok (show acctAt l name < 0 by omega)
  refine ⟨_, _, _, (b0.ext Y6).loadA0 (by kernel_rfl), ?_⟩
  refine Ret.at (impl_changed_BookOpen_c (ht.ext X6) (h.ext X6) hc (by omega) hb (b1.ext Y6) (b2.ext Y6) s1 s2) ?_
  rintro v w7 ⟨p', n', c', f, hv, hor, y7⟩
  subst hv
  have lt3 := b3.lt
  have l6 := Y6.le
  obtain ⟨w8, st8, b8, ch8, sz8⟩ := ((b3.ext Y6).ext y7).storeA0 (P := P) (t := T_impl_Book) (xs := [.slice p' n' c']) (by kernel_rfl) rfl (by simp [Value.oneCell'])
  refine ⟨_, _, _, _, rfl, w8, st8, _, _, _, b8.loadA0 (by kernel_rfl), p', n', c', f, by rw [q1], ?_, (X6.trans y7).chg ch8 (by simp; omega)⟩
  rw [q2]
  exact (hor.chg ch8 (fun q hq hm => by have := (hor.lt q hq).1; simp at hm; omega)).mono X6.le
end Go.Proofs.YtbgokfhcgcoipaaGreatDoor
namespace Go.Proofs.YtbgokfhcgcoipaaGreatDoor
open Go Go.Proofs.YtbgokfhcgcoipaaGreatDoor.Sx
set_option maxHeartbeats 1000000 in
theorem spec_BookOpen_j0_c {w W : World} {p : Option Addr} {n c r r1 : Nat} {l : List (List D0)} {name cur : ByteArray} (h : RowsR w 4 p n c l) (hc : ∀ x ∈ l, x.map D0.code = [.str, .str, .bool, .ints]) (hn : n <= 1000) (hb : ∀ x ∈ l, bulks x <= 1048576) (s1 : name.size <= 1048576) (s2 : cur.size <= 1048576) (X : Ext w W)
    (b0 : Blk W r T_impl_Book [.slice p n c]) (b1 : Blk W r1 T_impl_Book [.slice none 0 0]) (hr1 : w.heap.size <= r1) (q1 : openOk l name cur = bookOk (openL l name cur)) (q2 : openT l name cur = if bookOk (openL l name cur) then openL l name cur else []) :
    spec_BookOpen_j0 name cur r r1 W fun v w' => ∃ p' n' c' f, v = .tuple #[.agg ⟨[.slice p' n' c']⟩, .bool (openOk l name cur)] /\ OwnRows w' w.heap.size T_impl_Acct 4 p' n' c' (openT l name cur) f /\ Ext w w' := by
  have hln := h.1
  have lt1' := b1.lt
  have lX := X.le
  unfold spec_BookOpen_j0
  refine ⟨_, _, _, b0.loadA0 (by kernel_rfl), ?_⟩
  refine Ret.at (spec_l17Copy_c (h.ext X) hc (by omega) (wide hb)) ?_
  rintro v w4 ⟨p3, c3, f3, hv, ho3, y3⟩
  subst hv
  refine ⟨_, _, _, rfl, ?_⟩
  intro r2 w5 hn5
  have e5 := hn5.r_eq; have z5 := hn5.size
  obtain ⟨w6, st6, b2, y6⟩ := hn5.fill (P := P) (t := T_impl_Book) (xs := [.slice p3 n c3]) (by simp [Value.oneCell']) (by kernel_rfl) rfl
  have ho5 := ho3.ext y6
  have Y6 := y3.trans y6
  have X5 := X.trans Y6
  have b1 := b1.ext Y6
  have ly3 := y3.le; have ly6 := y6.le
  refine ⟨w6, st6, fun k wk => ∃ j : Nat, k = j /\ j <= n /\ (∀ a (x : List D0), l[a]? = some x -> a < j -> Op.bytesLess (strOf x).toList name.toList = true) /\ Ext w6 wk, fun k _ => n - k.toNat, ⟨0, rfl, by omega, fun a x _ ha => absurd ha (by omega), Ext.refl w6⟩, ?_⟩
  intro junk wk k ⟨j, hj, hjn, hless, hxk⟩
  subst hj
  refine ⟨_, _, _, (b2.ext hxk).loadAt 0 rfl (by kernel_rfl) rfl, ifD (fun hlt => ?_) (fun hge => ⟨fun h => absurd h (by simp), fun _ => ?_⟩)⟩
  · have hjl : j < l.length := by omega
    obtain ⟨g, xs1, cs1, zs1, hpb, _, _, hxl, hcl, hblk, hrep, _⟩ := ho5.put (List.getElem?_eq_getElem hjl)
    obtain ⟨a0, a1, a2, a3p, a3n, a3c, a3z, rfl, hd, _⟩ := open_Acct hrep (hc _ (List.getElem_mem hjl))
    have hs0 : strOf l[j] = a0 := by rw [hd]; rfl
    subst hpb
    refine ⟨_, _, _, (b2.ext hxk).loadAt 0 rfl (by kernel_rfl) rfl, ⟨by omega, by omega⟩, _, (hblk.ext hxk).loadAt (j * 4) (by rw [addr_add, addr_add, Nat.zero_add, Nat.add_zero, Int.toNat_natCast]) (by kernel_rfl) (by rw [List.append_assoc, <- hxl, List.getElem?_append_right (Nat.le_refl _), Nat.sub_self]; rfl), fun hl => ?_, fun hnl => ?_⟩
    · refine exW ⟨by omega, by omega⟩ ⟨⟨j + 1, rfl, by omega, fun a y hy ha => ?_, hxk⟩, by show n - ((j : Int) + 1).toNat < n - (j : Int).toNat; omega⟩
      by_cases hak : a < j
      · exact hless a y hy hak
      · have : a = j := by omega
        subst this
        rw [List.getElem?_eq_getElem hjl] at hy
        simp only [Option.some.injEq] at hy
        rw [<- hy, hs0]; exact hl
    · have hpos : j = acAt l name := acAt_unique (by omega) hless (fun y hy => by
        rw [List.getElem?_eq_getElem hjl] at hy
        simp only [Option.some.injEq] at hy
        rw [<- hy, hs0]; exact hnl)
      intro r3 w8 hn8
      have Y8 := hxk.trans hn8.ext
      obtain ⟨g1, c1, w9, hA1, X9, hjc, hrest⟩ := ins3 (ho5.ext hxk) (by have := hxk.le; omega) hjn (by omega) hn8
      rw [Int.toNat_natCast]
      refine ⟨_, _, _, (b2.ext Y8).loadAt 0 rfl (by kernel_rfl) rfl, ⟨by omega, by omega⟩, some ⟨g1, 0, none⟩, j, c1, w9, by rw [Nat.sub_zero, Nat.sub_zero, sub0g]; exact hA1, ?_⟩
      intro r4 w10 hn10
      obtain ⟨g2, c2, w11, hA2, X11, g3, c3, w12, f', hA3, hor, X12⟩ := hrest (openRow name cur) _ r4 w10 hn10 rfl (by simp [Value.oneCell']) (fun W => own_openRow W _ name cur)
      have hopen : openL l name cur = l.take j ++ openRow name cur :: l.drop j := by unfold openL; rw [<- hpos]
      rw [<- hopen] at hor
      refine ⟨_, _, _, w11, hA2, _, _, _, ((b2.ext hxk).ext X11).loadAt 0 rfl (by kernel_rfl) rfl, ⟨by omega, by omega⟩, _, _, _, w12, hA3, ?_⟩
      intro r5 w13 hn13
      have e13 := hn13.r_eq; have z13 := hn13.size
      obtain ⟨w14, st14, b14, y14⟩ := hn13.fill (P := P) (t := T_impl_Book) (xs := [.slice (some ⟨g3, 0, none⟩) (n + 1) c3]) (by simp [Value.oneCell']) (by kernel_rfl) rfl
      have Y14 := hxk.trans (X12.trans y14)
      have X14 := X5.trans Y14
      refine ⟨w14, st14, _, _, _, b14.loadA0 (by kernel_rfl), ?_⟩
      refine Ret.at (spec_BookOk_w (hor.ext y14).rows (openL_code hc name cur) (by omega) (openL_bulk hb s1 s2)) ?_
      rintro v w15 ⟨hv, y15⟩
      subst hv
      have hb1 := (b1.ext Y14).ext y15
      have X15 := X14.trans y15
      have lt1 := b1.lt
      have l5k := (hxk.trans X12).le
      refine ⟨_, rfl, ifN (fun hno => ?_) (fun hyes => ?_)⟩
      · obtain ⟨w16, st16, b16, ch16, sz16⟩ := hb1.storeA0 (P := P) (t := T_impl_Book) (xs := [.slice none 0 0]) (by kernel_rfl) rfl (by simp [Value.oneCell'])
        refine ⟨w16, st16, _, _, _, b16.loadA0 (by kernel_rfl), none, 0, 0, [], by rw [q1, hno], ?_, X15.chg ch16 (by simp; omega)⟩
        rw [openT_no (by rw [q1, hno])]
        exact rows0 _ _ _ _
      · obtain ⟨w16, st16, b16, ch16, sz16⟩ := hb1.storeA0 (P := P) (t := T_impl_Book) (xs := [.slice (some ⟨g3, 0, none⟩) (n + 1) c3]) (by kernel_rfl) rfl (by simp [Value.oneCell'])
        refine ⟨_, _, _, (b14.ext y15).loadA0 (by kernel_rfl), w16, st16, _, _, _, b16.loadA0 (by kernel_rfl), _, _, _, f', by rw [q1, hyes], ?_, X15.chg ch16 (by simp; omega)⟩
        rw [q2, hyes, if_pos rfl]
        exact ((((hor.ext y14).ext y15).chg ch16 (fun q hq hm => by have := (hor.lt q hq).1; simp at hm; omega))).mono (by omega)
  · have hpos : j = acAt l name := acAt_unique (by omega) hless (fun y hy => by
      rw [List.getElem?_eq_none (by omega)] at hy; cases hy)
    intro r3 w8 hn8
    have Y8 := hxk.trans hn8.ext
    obtain ⟨g1, c1, w9, hA1, X9, hjc, hrest⟩ := ins3 (ho5.ext hxk) (by have := hxk.le; omega) hjn (by omega) hn8
    rw [Int.toNat_natCast]
    refine ⟨_, _, _, (b2.ext Y8).loadAt 0 rfl (by kernel_rfl) rfl, ⟨by omega, by omega⟩, some ⟨g1, 0, none⟩, j, c1, w9, by rw [Nat.sub_zero, Nat.sub_zero, sub0g]; exact hA1, ?_⟩
    intro r4 w10 hn10
    obtain ⟨g2, c2, w11, hA2, X11, g3, c3, w12, f', hA3, hor, X12⟩ := hrest (openRow name cur) _ r4 w10 hn10 rfl (by simp [Value.oneCell']) (fun W => own_openRow W _ name cur)
    have hopen : openL l name cur = l.take j ++ openRow name cur :: l.drop j := by unfold openL; rw [<- hpos]
    rw [<- hopen] at hor
    refine ⟨_, _, _, w11, hA2, _, _, _, ((b2.ext hxk).ext X11).loadAt 0 rfl (by kernel_rfl) rfl, ⟨by omega, by omega⟩, _, _, _, w12, hA3, ?_⟩
    intro r5 w13 hn13
    have e13 := hn13.r_eq; have z13 := hn13.size
    obtain ⟨w14, st14, b14, y14⟩ := hn13.fill (P := P) (t := T_impl_Book) (xs := [.slice (some ⟨g3, 0, none⟩) (n + 1) c3]) (by simp [Value.oneCell']) (by kernel_rfl) rfl
    have Y14 := hxk.trans (X12.trans y14)
    have X14 := X5.trans Y14
    refine ⟨w14, st14, _, _, _, b14.loadA0 (by kernel_rfl), ?_⟩
    refine Ret.at (spec_BookOk_w (hor.ext y14).rows (openL_code hc name cur) (by omega) (openL_bulk hb s1 s2)) ?_
    rintro v w15 ⟨hv, y15⟩
    subst hv
    have hb1 := (b1.ext Y14).ext y15
    have X15 := X14.trans y15
    have lt1 := b1.lt
    have l5k := (hxk.trans X12).le
    refine ⟨_, rfl, ifN (fun hno => ?_) (fun hyes => ?_)⟩
    · obtain ⟨w16, st16, b16, ch16, sz16⟩ := hb1.storeA0 (P := P) (t := T_impl_Book) (xs := [.slice none 0 0]) (by kernel_rfl) rfl (by simp [Value.oneCell'])
      refine ⟨w16, st16, _, _, _, b16.loadA0 (by kernel_rfl), none, 0, 0, [], by rw [q1, hno], ?_, X15.chg ch16 (by simp; omega)⟩
      rw [openT_no (by rw [q1, hno])]
      exact rows0 _ _ _ _
    · obtain ⟨w16, st16, b16, ch16, sz16⟩ := hb1.storeA0 (P := P) (t := T_impl_Book) (xs := [.slice (some ⟨g3, 0, none⟩) (n + 1) c3]) (by kernel_rfl) rfl (by simp [Value.oneCell'])
      refine ⟨_, _, _, (b14.ext y15).loadA0 (by kernel_rfl), w16, st16, _, _, _, b16.loadA0 (by kernel_rfl), _, _, _, f', by rw [q1, hyes], ?_, X15.chg ch16 (by simp; omega)⟩
      rw [q2, hyes, if_pos rfl]
      exact ((((hor.ext y14).ext y15).chg ch16 (fun q hq hm => by have := (hor.lt q hq).1; simp at hm; omega))).mono (by omega)
set_option maxHeartbeats 1000000 in
theorem spec_BookOpen_o {w : World} {p : Option Addr} {n c : Nat} {l : List (List D0)} (h : RowsR w 4 p n c l) (hc : ∀ x ∈ l, x.map D0.code = [.str, .str, .bool, .ints]) (hn : n <= 1048576) (hb : ∀ x ∈ l, bulks x <= 1048576) (name : ByteArray) (s1 : name.size <= 1048576) (cur : ByteArray) (s2 : cur.size <= 1048576) :
    Ret P n_spec_BookOpen [.agg ⟨[.slice p n c]⟩, .string name, .string cur] w fun v w' => ∃ p' n' c' f, v = .tuple #[.agg ⟨[.slice p' n' c']⟩, .bool (openOk l name cur)] /\ OwnRows w' w.heap.size T_impl_Acct 4 p' n' c' (openT l name cur) f /\ Ext w w' := by
  have hln := h.1
  refine spec_BookOpen_ret ?_
  unfold spec_BookOpen
  intro r w1 hn1 r1 w2 hn2
  have e1 := hn1.r_eq; have z1 := hn1.size; have e2 := hn2.r_eq; have z2 := hn2.size
  have X2 := hn1.ext.trans hn2.ext
  have b0 := hn1.blk.ext hn2.ext
  have b1 := hn2.blk
  refine ⟨_, _, _, b0.loadA0 (by kernel_rfl), ?_⟩
  refine Ret.at (spec_BookOk_c (h.ext X2) hc hn hb) ?_
  rintro v w5 ⟨hv, y5⟩
  subst hv
  have X5 := X2.trans y5
  have no : ∀ W, Ext w2 W -> openOk l name cur = false -> ∃ wv, Stores P T_impl_Book ⟨r1, 0, none⟩ (.agg #[.slice none 0 0]) W wv /\ ∃ p n c, Loads P T_impl_Book ⟨r1, 0, none⟩ (.agg #[.slice p n c]) wv /\ ∃ p' n' c' f, Value.tuple #[.agg #[.slice p n c], .bool false] = .tuple #[.agg ⟨[.slice p' n' c']⟩, .bool (openOk l name cur)] /\ OwnRows wv w.heap.size T_impl_Acct 4 p' n' c' (openT l name cur) f /\ Ext w wv := fun W hW hno => by
    obtain ⟨w12, st12, b12, ch12, sz12⟩ := (b1.ext hW).storeA0 (P := P) (t := T_impl_Book) (xs := [.slice none 0 0]) (by kernel_rfl) rfl (by simp [Value.oneCell'])
    refine ⟨w12, st12, _, _, _, b12.loadA0 (by kernel_rfl), none, 0, 0, [], by rw [hno], ?_, (X2.trans hW).chg ch12 (by simp; omega)⟩
    rw [openT_no hno]
    exact rows0 _ _ _ _
  refine ⟨_, rfl, ifN (fun hno => ifT (no w5 y5 (by unfold openOk; rw [hno]; rfl))) (fun hok => ?_)⟩
  have h12 := bookOk_len hok
  refine ⟨_, _, _, (b0.ext y5).loadA0 (by kernel_rfl), ?_⟩
  refine Ret.at (spec_AcctAt_c (h.ext X5) hc name) ?_
  rintro v w6 ⟨hv, y6⟩
  subst hv
  have Y6 := y5.trans y6
  refine ⟨_, rfl, ifD (fun hge => no w6 Y6 (by unfold openOk; rw [hok, decide_eq_false (by omega)]; rfl)) (fun hlt => ?_)⟩
  obtain ⟨q1, q2⟩ := openT_yes (cur := cur) hok (show acctAt l name < 0 by omega)
  exact spec_BookOpen_j0_c h hc (by omega) hb s1 s2 (X2.trans Y6) (b0.ext Y6) (b1.ext Y6) (by omega) q1 q2
end Go.Proofs.YtbgokfhcgcoipaaGreatDoor
namespace Go.Proofs.YtbgokfhcgcoipaaGreatDoor
open Go Go.Proofs.YtbgokfhcgcoipaaGreatDoor.Sx
theorem impl_BookOpen_c {w : World} {p : Option Addr} {n c : Nat} {l : List (List D0)} (h : RowsR w 4 p n c l) (hc : ∀ x ∈ l, x.map D0.code = [.str, .str, .bool, .ints]) (hn : n <= 1048576) (hb : ∀ x ∈ l, bulks x <= 1048576) (name : ByteArray) (s1 : name.size <= 1048576) (cur : ByteArray) (s2 : cur.size <= 1048576) (ht : Tab w) :
    Ret P n_impl_BookOpen [.agg ⟨[.slice p n c]⟩, .string name, .string cur] w fun v w' => ∃ p' n' c' f, v = .tuple #[.agg ⟨[.slice p' n' c']⟩, .bool (openOk l name cur)] /\ OwnRows w' w.heap.size T_impl_Acct 4 p' n' c' (openT l name cur) f /\ (∀ x ∈ openT l name cur, x.map D0.code = [.str, .str, .bool, .ints]) /\ cntL (openT l name cur) <= 1000000000 /\ Ext w w' :=
  (impl_BookOpen_o h hc hn hb name s1 cur s2 ht).mono fun v w' ⟨p', n', c', f, hv, ho, hx⟩ => ⟨p', n', c', f, hv, ho, openT_code hc name cur, openT_cnt hc name cur, hx⟩
end Go.Proofs.YtbgokfhcgcoipaaGreatDoor
namespace Go.Proofs.YtbgokfhcgcoipaaGreatDoor.Sx
open Go Go.RowKit
section
variable (P : Program) (N : Nat) (car : Nat -> List (Nat × VS))
def semX : Code -> QF -> Fr -> World -> Prop
  | .skip, Q, φ, w => Q .normal φ w
  | .region id ops draw, Q, φ, w =>
    match draw with
    | true => cond (P.follows .mixedOrders) (cond (good P ops) (∃ S, dsem P N S ops true (Q .normal) (List.range ops.size) (fun _ => w.drew) φ w.drew)
        (cond (goodF P ops (flo P ops) (piF P ops)) (dsemF P N ops (flo P ops) (Q .normal) (piF P ops) (fun _ => w.drew) (List.replicate (flo P ops).length none) φ w.drew) False)) False
    | false => match panOf ops with
      | none => dsem P N [] ops false (Q .normal) (List.range ops.size) (fun _ => w) φ w
      | some x => dsem P N [] ops false (panQ x Q) (List.range (ops.size - 1)) (fun _ => w) φ w
  | .seq x y, Q, φ, w => semX x (thenQ (semX y Q) Q) φ w
  | .cond c x y, Q, φ, w => match ev φ c with
    | .bool b => (b = true -> semX x Q φ w) /\ (b = false -> semX y Q φ w)
    | _ => False
  | .block id c, Q, φ, w => semX c (blockQ id Q) φ w
  | .scope c, Q, φ, w => semX c (scopeQ Q) φ w
  | .loop c, Q, φ, w =>
    ∃ (I : TyT ((car (keyOf c)).map (·.2)) (World -> Prop)) (μ : TyT ((car (keyOf c)).map (·.2)) (World -> Nat)),
      holds ((car (keyOf c)).map (·.2)) I ((car (keyOf c)).map fun x => φ x.1) w /\
      ∀ (ζ : Fr) (w : World), allT ((car (keyOf c)).map (·.2)) fun vs => holds ((car (keyOf c)).map (·.2)) I vs w ->
        semX c (thenQ (fun φ' w' => holds ((car (keyOf c)).map (·.2)) I ((car (keyOf c)).map fun x => φ' x.1) w' /\
          meas ((car (keyOf c)).map (·.2)) μ ((car (keyOf c)).map fun x => φ' x.1) w' < meas ((car (keyOf c)).map (·.2)) μ vs w) Q)
          (havoc (dstsOf c) (car (keyOf c)) vs ζ φ) w
  | .exit id, Q, φ, w => Q (.exit id) φ w
  | .ret, Q, φ, w => Q .ret φ w
  | .label _, Q, φ, w => Q .normal φ w
  | _, _, _, _ => False
variable {P N car}
theorem semA_of_semX : ∀ (c : Code) (Q : QF) (φ : Fr) (w : World), semX P N car c Q φ w -> semA P N c Q φ w
  | .skip, Q, φ, w, h => h
  | .region id ops draw, Q, φ, w, h => by
    cases draw with
    | false =>
      simp only [semX] at h
      simp only [semA]
      cases hp : panOf ops with
      | none => rw [hp] at h; exact dsem_sqP P N _ _ _ _ h
      | some x => rw [hp] at h; exact dsem_sqP P N _ _ _ _ h
    | true =>
      simp only [semX] at h
      cases hm : P.follows .mixedOrders with
      | false => rw [hm] at h; exact h.elim
      | true =>
        rw [hm] at h
        refine ⟨hm, ?_⟩
        cases hc : good P ops with
        | true =>
          rw [hc] at h
          exact .inl ⟨rfl, h.elim fun S h => ⟨S, dsem_drP P N _ _ _ _ h⟩⟩
        | false =>
          rw [hc] at h
          cases hd : goodF P ops (flo P ops) (piF P ops) with
          | true => rw [hd] at h; exact .inr ⟨rfl, dsemF_dF P N _ _ _ _ _ h⟩
          | false => rw [hd] at h; exact h.elim
  | .seq x y, Q, φ, w, h => by
    have h1 := semA_of_semX x (thenQ (semX P N car y Q) Q) φ w h
    show semA P N x (thenQ (semA P N y Q) Q) φ w
    refine semA_mono (fun e φ' w' hq => ?_) h1
    cases e with
    | normal => exact semA_of_semX y _ _ _ hq
    | _ => exact hq
  | .cond c x y, Q, φ, w, h => by
    simp only [semX] at h
    split at h
    · rename_i b hb
      exact ⟨b, hb, fun e => semA_of_semX x _ _ _ (h.1 e), fun e => semA_of_semX y _ _ _ (h.2 e)⟩
    · exact h.elim
  | .block id c, Q, φ, w, h => semA_of_semX c _ φ w h
  | .loop c, Q, φ, w, h => by
    obtain ⟨I, μ, h0, hr⟩ := h
    refine ⟨fun φ w => holds _ I ((car (keyOf c)).map fun x => φ x.1) w, fun φ w => meas _ μ ((car (keyOf c)).map fun x => φ x.1) w, h0, ?_⟩
    intro ψ w1 hJ hψ
    have h1 := hr ψ w1
    have h2 : ∃ g, appT ((car (keyOf c)).map (·.2)) I ((car (keyOf c)).map fun x => ψ x.1) = some g := by
      unfold holds at hJ
      split at hJ
      · rename_i g hg; exact ⟨g, hg⟩
      · exact hJ.elim
    obtain ⟨g, hg⟩ := h2
    have h3 := allT_app hg h1 hJ
    rw [havoc_eq hψ] at h3
    exact semA_of_semX c _ ψ w1 h3
  | .exit id, Q, φ, w, h => h
  | .ret, Q, φ, w, h => h
  | .label _, Q, φ, w, h => h
  | .goto _, _, _, _, hs => hs.elim
  | .scope c, Q, φ, w, h => semA_of_semX c _ φ w h
  | .rangeFunc _ _ _ _, _, _, _, hs => hs.elim
  | .refuse _, _, _, _, hs => hs.elim
end
def fsemX (P : Program) (fn : Func) (car : Nat -> List (Nat × VS)) (args : List Value) (R : Value -> World -> Prop) (w : World) : Prop :=
  match fn.body with
  | some c => semX P fn.ntmps car c (bodyQ P fn R) (initF args) w
  | none => False
theorem Ret.of_fsemX {P : Program} {f : FuncId} {fn : Func} {car : Nat -> List (Nat × VS)} {args : List Value} {w : World} {R : Value -> World -> Prop}
    (hf : P.funcs[f]? = some fn) (hlen : Nat.ble args.length fn.ntmps = true) (h : fsemX P fn car args R w) : Ret P f args w R := by
  unfold fsemX at h
  split at h
  · rename_i c hb
    refine calls_of_wp hf hb ?_
    have hlen' : args.length <= fn.ntmps := Nat.le_of_ble_eq_true hlen
    refine wp_of_semA c (bodyQ P fn R) _ (initF args) _ w (initF_fits hlen') (fun e φ a w' hfit hq => ?_) (semA_of_semX c _ _ _ h)
    have key : resT P φ w' fn.results.toList (fun vs => R (retV vs) w') -> a.defers = [] /\ ∃ v, (results fn a.tmps).run P w' = .ok v w' /\ ∃ u, Ending.returned v = .returned u /\ R u w' := by
      intro hq
      obtain ⟨vs, hk, hr⟩ := resT_sound hfit _ _ hq
      refine ⟨hfit.defers, retV vs, ?_, _, rfl, hk⟩
      rw [results_eq, Array.mapM_eq_mapM_toList]
      simp only [Sem.run_bind, Sem.run_map, hr, Result.andThen_ok, Sem.run_pure]
      match vs with
      | [] => simp [retV]
      | [v] => simp [retV]
      | _ :: _ :: _ => simp [retV]
    cases e with
    | normal => exact key hq
    | ret => exact key hq
    | _ => exact hq.elim
  · exact h.elim
end Go.Proofs.YtbgokfhcgcoipaaGreatDoor.Sx
namespace Go.Proofs.YtbgokfhcgcoipaaGreatDoor
variable {w : World} {R : Value -> World -> Prop}
open Go Go.Proofs.YtbgokfhcgcoipaaGreatDoor.Sx
set_option maxRecDepth 100000
def spec_l17Draw_x_j0 (a0 : World) (a1 : Int -> World -> Prop) (mu : Int -> World -> Nat) (a2 : Int) (W : World) (R : Value -> World -> Prop) : Prop :=
 ∃ a3 : Int, a3 = IntKind.wrap .i64 (a2 + 1) /\ a1 a3 W /\ mu a3 W < mu a2 a0
def spec_l17Draw_x (c : Option Addr) (w : World) (R : Value -> World -> Prop) : Prop :=
 ∀ r wv, New w (.cells ⟨[.slice none 0 0]⟩ 89 (0, 0)) r wv ->
 ∀ a0 a1, New wv (.cells ⟨[.slice none 0 0]⟩ 89 (0, 0)) a0 a1 ->
 ∃ wv_2, Stores P 89 ⟨a0, 0, none⟩ (.agg #[.slice none 0 0]) a1 wv_2 /\
 ∀ a2 a3, New wv_2 (.cells ⟨[(.string (S [98, 97, 110, 107])), (.string (S [98, 111, 120])), (.string (S [99, 97, 115, 104])), (.string (S [102, 101, 101, 115])), (.string (S [116, 97, 120]))]⟩ 9 (0, 0)) a2 a3 ->
 ∃ (a4 : Int -> World -> Prop) (mu : Int -> World -> Nat), a4 0 a3 /\
 ∀ (a5 : Fr) (a6 : World) (a7 : Int), a4 a7 a6 ->
 ((decide ((a7 : Int) < ((5 : Nat) : Int))) = true ->
 (0 <= (a7 : Int) /\ (a7 : Int) < (5 : Nat)) /\ ∃ a8, Loads P 9 ((⟨a2, 0, none⟩ : Addr).add (a7.toNat * 1)) (.string a8) a6 /\ Calls P 175 ⟨[(.pointer c), .int .i64 4]⟩ a6 fun e a9 =>
 ∃ aa, e = .returned (.bool aa) /\
 ((!aa) = true ->
 ∀ ab ac, New a9 (.cells ⟨[(.string (S [67, 72, 70])), (.string (S [69, 85, 82])), (.string (S [85, 83, 68])), (.string (S [74, 80, 89]))]⟩ 9 (0, 0)) ab ac ->
 Calls P 99 ⟨[(.pointer c), (.slice (some ⟨ab, 0, none⟩) 4 4)]⟩ ac fun ae af =>
 ∃ ag, ae = .returned (.string ag) /\
 ∃ ah ai aj, Loads P 89 ⟨a0, 0, none⟩ (.agg #[.slice ah ai aj]) af /\ Calls P 197 ⟨[.agg #[.slice ah ai aj], .string a8, .string ag]⟩ af fun ak al =>
 ∃ am an ao ap, ak = .returned (.tuple #[.agg #[.slice am an ao], .bool ap]) /\
 ∀ aq ar, New al (.cells ⟨[.slice none 0 0]⟩ 89 (0, 0)) aq ar ->
 ∃ wv_10, Stores P 89 ⟨aq, 0, none⟩ (.agg #[.slice am an ao]) ar wv_10 /\
 (ap = true ->
 ∃ blks : List Nat, ∃ au av aw, (∀ wv_11, EX blks wv_10.drew wv_11 -> Loads P 89 ⟨aq, 0, none⟩ (.agg #[.slice au av aw]) wv_11) /\ Calls P 83 ⟨[(.pointer c), .int .i64 9000]⟩ wv_10.drew fun ax ay =>
 ∃ az, ax = .returned (.int .i64 az) /\
 EX blks wv_10.drew ay /\ ∃ b0 : Int, b0 = IntKind.wrap .i64 (az - 2000) /\ Calls P 82 ⟨[.int .i64 b0]⟩ ay fun b1 b2 =>
 ∃ b3 b4 b5 b6, b1 = .returned (.agg #[.bool b3, .slice b4 b5 b6]) /\
 EX blks ay b2 /\ Calls P 198 ⟨[.agg #[.slice au av aw], .string a8, .agg #[.string ag, .bool b3, .slice b4 b5 b6]]⟩ b2 fun b7 b8 =>
 ∃ b9 ba bb bc, b7 = .returned (.tuple #[.agg #[.slice b9 ba bb], .bool bc]) /\
 ∃ wv_15, Stores P 89 ⟨a0, 0, none⟩ (.agg #[.slice b9 ba bb]) b8 wv_15 /\
 spec_l17Draw_x_j0 a6 a4 mu a7 wv_15 R) /\
 (ap = false ->
 spec_l17Draw_x_j0 a6 a4 mu a7 wv_10 R)) /\
 ((!aa) = false ->
 spec_l17Draw_x_j0 a6 a4 mu a7 a9 R)) /\
 ((decide ((a7 : Int) < ((5 : Nat) : Int))) = false ->
 ∃ bd be bf, Loads P 89 ⟨a0, 0, none⟩ (.agg #[.slice bd be bf]) a6 /\ ∃ wv_16, Stores P 89 ⟨r, 0, none⟩ (.agg #[.slice bd be bf]) a6 wv_16 /\
 ∃ bg bh bi, Loads P 89 ⟨r, 0, none⟩ (.agg #[.slice bg bh bi]) wv_16 /\ R (.agg #[.slice bg bh bi]) wv_16)
theorem spec_l17Draw_x_eq (c : Option Addr) (w : World) (R : Value -> World -> Prop) : spec_l17Draw_x c w R = fsemX P Tryz.f133 (fun k => cond (Nat.beq k 4) [(12, .one (.int .i64))] ([])) [(.pointer c)] R w := by kernel_rfl
theorem spec_l17Draw_x_ret {c : Option Addr} (h : spec_l17Draw_x c w R) : Ret P 133 [.pointer c] w R := Ret.of_fsemX Tryz.func133 rfl (Eq.mp (spec_l17Draw_x_eq c w R) h)
end Go.Proofs.YtbgokfhcgcoipaaGreatDoor
namespace Go.Proofs.YtbgokfhcgcoipaaGreatDoor
open Go Go.Proofs.YtbgokfhcgcoipaaGreatDoor.Sx
def names5 : List ByteArray := [S [98, 97, 110, 107], S [98, 111, 120], S [99, 97, 115, 104], S [102, 101, 101, 115], S [116, 97, 120]]
def curs4 : List ByteArray := [S [67, 72, 70], S [69, 85, 82], S [85, 83, 68], S [74, 80, 89]]
theorem curs4_known : ∀ c ∈ curs4, curKnown c = true := by decide +kernel
theorem names5_word : ∀ c ∈ names5, isWord c = true := by decide +kernel
theorem names5_less : ∀ j : Fin 5, ∀ x ∈ names5.take j.val, bLess x (names5[j.val]'j.isLt) = true := by decide +kernel
theorem names5_zed : ∀ x ∈ names5, bLess x (S [122, 101, 100]) = true := by decide +kernel
structure DBk (l : List B3) : Prop where
  bk : BkL l
  all : ∀ x ∈ l, x.1 ∈ names5 /\ x.2.1 ∈ curs4 /\ x.2.2.natAbs <= 7000
  len : l.length <= 5
theorem dbk_nil : DBk [] := ⟨⟨List.Pairwise.nil, fun x hx => by simp at hx, by decide⟩, fun x hx => by simp at hx, by decide⟩
theorem spec_l17Draw_c {w : World} {rc n c : Nat} {p : Option Addr} (hc : Cur w rc p n c) (hb : ByR w p n) (hne : 0 < n -> ∀ q, p.map (·.block) = some q -> q ≠ rc) (hn : n <= 1048576) :
    Ret P n_spec_l17Draw [.pointer (some ⟨rc, 0, none⟩)] w fun v w' => ∃ (l : List B3) (f : List Nat) (p' : Option Addr) (n' c' : Nat), v = .agg ⟨[.slice p' n' c']⟩ /\ OwnRows w' w.heap.size T_impl_Acct 4 p' n' c' (l.map bkR) f /\ DBk l /\ Chg [rc] w w' := by
  refine spec_l17Draw_x_ret ?_
  unfold spec_l17Draw_x
  intro r w1 hn1 r1 w2 hn2
  have e1 := hn1.r_eq; have e2 := hn2.r_eq; have s1 := hn1.size; have s2 := hn2.size
  have hlt := hc.lt
  obtain ⟨w3, st3, b1, y3⟩ := hn2.fill (P := P) (t := T_impl_Book) (xs := [.slice none 0 0]) (by simp [Value.oneCell']) (by kernel_rfl) rfl
  refine ⟨w3, st3, ?_⟩
  intro r2 w4 hn4
  have e4 := hn4.r_eq; have s4 := hn4.size; have l3 := y3.le; have r1lt := b1.lt
  have X4 := hn1.ext.trans (y3.trans hn4.ext)
  have sR : ∀ q ∈ [r1], w.heap.size <= q := fun q hq => by have := List.mem_singleton.1 hq; omega
  refine ⟨fun i W => ∃ (j : Nat) (l : List B3) (f : List Nat) (ap : Option Addr) (an ac : Nat), i = j /\ j <= 5 /\ Blk W r1 T_impl_Book [.slice ap an ac] /\ OwnRows W w4.heap.size T_impl_Acct 4 ap an ac (l.map bkR) f /\ DBk l /\ (∀ x ∈ l, x.1 ∈ names5.take j) /\ l.length <= j /\ Cur W rc p n c /\ Blk W r2 T_string (names5.map Value.string) /\ Blk W r T_impl_Book [.slice none 0 0] /\ Chg [rc] w W /\ w4.heap.size <= W.heap.size, fun i _ => 5 - i.toNat,
    ⟨0, [], [], none, 0, 0, rfl, by omega, b1.ext hn4.ext, rows0 _ _ _ _, dbk_nil, fun x hx => by simp at hx, by simp, hc.ext X4, hn4.blk, hn1.blk.ext (y3.trans hn4.ext), X4.toChg, Nat.le_refl _⟩, ?_⟩
  rintro junk W i ⟨j, l, f, ap, an, ac, rfl, hj, hA, hO, hD, hnm, hll, hcW, hN, hr, hX, hWz⟩
  have nr1 : r1 ≠ rc := by omega
  have nr2 : r2 ≠ rc := by omega
  have nr : r ≠ rc := by omega
  have na : ∀ {a b : Nat}, a ≠ b -> a ∉ [b] := fun h hm => h (List.mem_singleton.1 hm)
  have hbW : ByR W p n := hb.chg hX hne
  refine ifD (fun hlt5 => ?_) (fun hge => ?_)
  · have hj5 : j < names5.length := by show j < 5; omega
    refine ⟨⟨by omega, by omega⟩, names5[j], hN.loadAt j (by rw [Int.toNat_natCast, addr_add]; simp) (by kernel_rfl) (by rw [List.getElem?_map, List.getElem?_eq_getElem hj5]; rfl), ?_⟩
    refine Ret.at (spec_l01Once_c hcW hbW hne hn (k := 4) (by decide) (by decide)) ?_
    rintro v w5 ⟨q, rfl, hc5, ch5⟩
    have f5 : ∀ x ∈ f, x ∉ [rc] := fun x hx => na (by have := hO.lt x hx; omega)
    have hO5 := hO.chg ch5 f5
    have hA5 := hA.chg ch5 (na nr1)
    have hN5 := hN.chg ch5 (na nr2)
    have hr5 := hr.chg ch5 (na nr)
    have hX5 := hX.trans ch5
    have hb5 := hbW.chg ch5 hne
    have z5 := ch5.size
    have next : ∀ (W' : World) (l' : List B3) (f' : List Nat) (ap' : Option Addr) (an' ac' : Nat), Blk W' r1 T_impl_Book [.slice ap' an' ac'] -> OwnRows W' w4.heap.size T_impl_Acct 4 ap' an' ac' (l'.map bkR) f' -> DBk l' -> (∀ x ∈ l', x.1 ∈ names5.take (j + 1)) -> l'.length <= j + 1 -> Cur W' rc p n c -> Blk W' r2 T_string (names5.map Value.string) -> Blk W' r T_impl_Book [.slice none 0 0] -> Chg [rc] w W' -> w4.heap.size <= W'.heap.size ->
        ∃ t42 : Int, t42 = IntKind.wrap .i64 (((j : Nat) : Int) + 1) /\ (∃ (j' : Nat) (l : List B3) (f : List Nat) (ap : Option Addr) (an ac : Nat), t42 = j' /\ j' <= 5 /\ Blk W' r1 T_impl_Book [.slice ap an ac] /\ OwnRows W' w4.heap.size T_impl_Acct 4 ap an ac (l.map bkR) f /\ DBk l /\ (∀ x ∈ l, x.1 ∈ names5.take j') /\ l.length <= j' /\ Cur W' rc p n c /\ Blk W' r2 T_string (names5.map Value.string) /\ Blk W' r T_impl_Book [.slice none 0 0] /\ Chg [rc] w W' /\ w4.heap.size <= W'.heap.size) /\ 5 - t42.toNat < 5 - ((j : Nat) : Int).toNat :=
      fun W' l' f' ap' an' ac' h1 h2 h3 h4 h5 h6 h7 h8 h9 h10 => exW ⟨by omega, by omega⟩ ⟨⟨j + 1, l', f', ap', an', ac', by omega, by omega, h1, h2, h3, h4, h5, h6, h7, h8, h9, h10⟩, by omega⟩
    have sub5 : ∀ x ∈ l, x.1 ∈ names5.take (j + 1) := fun x hx => by
      rw [List.take_succ_eq_append_getElem hj5]; exact List.mem_append_left _ (hnm x hx)
    refine ⟨_, rfl, fun _ => ?_, fun _ => next w5 l f ap an ac hA5 hO5 hD sub5 (by omega) hc5 hN5 hr5 hX5 (by omega)⟩
    intro r3 w6 hn6
    have e6 := hn6.r_eq; have s6 := hn6.size
    have hs6 : Seg w6 r3 0 (curs4.map Value.string) := hn6.blk.seg
    refine Ret.at (spec_l01Str_c (hc5.ext hn6.ext) (hb5.ext hn6.ext) hne hn hs6 (by have := hc5.lt; omega) rfl (by decide) (by decide)) ?_
    rintro v w7 ⟨cur, rfl, hcur, hc7, ch7⟩
    have hck := curs4_known cur hcur
    have z7 := ch7.size
    have hO7 := (hO5.ext hn6.ext).chg ch7 f5
    have hA7 := (hA5.ext hn6.ext).chg ch7 (na nr1)
    have hN7 := (hN5.ext hn6.ext).chg ch7 (na nr2)
    have hr7 := (hr5.ext hn6.ext).chg ch7 (na nr)
    have hX7 := (hX5.trans hn6.ext.toChg).trans ch7
    have hb7 := (hb5.ext hn6.ext).chg ch7 hne
    obtain ⟨s, hs⟩ : ∃ s, names5[j] = s := ⟨_, rfl⟩
    have hsm : s ∈ names5 := hs ▸ List.getElem_mem hj5
    have hsw := names5_word s hsm
    have hless : ∀ x ∈ l, bLess x.1 s = true := fun x hx => by rw [<- hs]; exact names5_less ⟨j, hj5⟩ x.1 (hnm x hx)
    have hlen : l.length = an := by have := hO.rows.1; simpa using this
    have hl5 := hD.len
    have hlt5' : l.length < 5 := by omega
    obtain ⟨ok1, ok2⟩ := hD.bk.open (cur := cur) hless hsw hck (by omega)
    refine ⟨_, rfl, _, _, _, hA7.loadA0 (by kernel_rfl), ?_⟩
    rw [hs]
    refine Ret.at (spec_BookOpen_o hO7.rows (bkR_code l) (by omega) hD.bk.bulk s (by have := word_size hsw; omega) cur (by have := known_size hck; omega)) ?_
    rintro v w8 ⟨bp, bn, bc, fb, hv, ho8, y8⟩
    rw [ok1] at hv
    rw [ok2] at ho8
    subst hv
    refine ⟨_, _, _, _, rfl, ?_⟩
    intro r4 w9 hn9
    have e9 := hn9.r_eq; have s9 := hn9.size
    obtain ⟨w10, st10, b4, y10⟩ := hn9.fill (P := P) (t := T_impl_Book) (xs := [.slice bp bn bc]) (by simp [Value.oneCell']) (by kernel_rfl) rfl
    have D := Ext.drew w10
    have l8 := y8.le; have l10 := y10.le; have lD := D.le
    refine ⟨w10, st10, fun _ => ?_, fun e => absurd e (by simp)⟩
    have Y10 := y8.trans (y10.trans D)
    have nr4 : r4 ≠ rc := by omega
    refine ⟨[rc], _, _, _, fun W hW => ((b4.ext D).chg (show Chg [rc] w10.drew W from hW) (na nr4)).loadA0 (by kernel_rfl), ?_⟩
    refine Ret.at (spec_l01Below_c (hc7.ext Y10) (hb7.ext Y10) hne hn (k := 9000) (by decide) (by decide)) ?_
    rintro v w12 ⟨z, rfl, hz0, hz1, hc12, ch12⟩
    have z12 := ch12.size
    refine ⟨_, rfl, show Chg [rc] w10.drew w12 from ch12, exW ⟨by omega, by omega⟩ ?_⟩
    refine Ret.at (spec_IntOf_c (n := z - 2000) (by omega) (by omega)) ?_
    rintro v w13 ⟨vs13, f13, rfl, ho13, _, y13⟩
    have r13 := ho13.reps
    obtain ⟨g0, gp, gn, gc, gz, rfl, _, _⟩ := open_Signed ho13.reps (enc_code _)
    have l13 := y13.le
    refine ⟨_, _, _, _, rfl, show Chg [rc] w12 w13 from y13.toChg, ?_⟩
    have ho13b := ((ho8.ext (y10.trans D)).chg ch12 (fun x hx => na (by have := ho8.lt x hx; omega))).ext y13
    have hB2 : BkL (l ++ [(s, cur, 0)]) := hD.bk.snoc hless hsw (money_midB hck (by decide)) (by omega)
    have hmz : moneyOk (.str cur :: enc (z - 2000)) = true := money_midB hck (by omega)
    obtain ⟨pk1, pk2⟩ := hB2.post_last hmz
    have hl13 : (l ++ [(s, cur, (0 : Int))]).length = bn := by have := ho8.rows.1; simpa using this
    have hl13' : l.length + 1 = bn := by rw [<- hl13, List.length_append]; rfl
    have rM : Reps w13 [.string cur, .bool g0, .slice gp gn gc] (.str cur :: enc (z - 2000)) := ⟨rfl, r13⟩
    have hbm : bulks (.str cur :: enc (z - 2000)) <= 100000000 := by
      have := known_size hck
      have h4 : (digs (z - 2000).natAbs).length <= 4 := digs_len 4 (by omega)
      simp only [enc, bulks, D0.bulk, List.map_cons, List.map_nil, List.sum_cons, List.sum_nil]
      omega
    refine Ret.at (spec_BookPost_o ho13b.rows (bkR_code _) (by omega) (wide hB2.bulk) s rM rfl hbm) ?_
    rintro v w14 ⟨cp, cn, cc, fc, hv, ho14, y14⟩
    rw [pk1] at hv
    rw [pk2] at ho14
    subst hv
    have Z14 := y13.trans y14
    have hA14 := ((hA7.ext Y10).chg ch12 (na nr1)).ext Z14
    obtain ⟨w15, st15, hA15, ch15, z15⟩ := hA14.storeA0 (P := P) (t := T_impl_Book) (xs := [.slice cp cn cc]) (by kernel_rfl) rfl (by simp [Value.oneCell'])
    have l14 := y14.le
    refine ⟨_, _, _, _, rfl, w15, st15, ?_⟩
    refine next w15 (l ++ [(s, cur, z - 2000)]) fc cp cn cc hA15 ((ho14.mono (by omega)).chg ch15 (fun x hx => na (by have := ho14.lt x hx; omega))) ⟨hD.bk.snoc hless hsw hmz (by omega), fun x hx => ?_, by rw [List.length_append]; show l.length + 1 <= 5; omega⟩ (fun x hx => ?_) (by rw [List.length_append]; show l.length + 1 <= j + 1; omega) ?_ ?_ ?_ ?_ (by omega)
    · rcases List.mem_append.1 hx with hx | hx
      · exact hD.all x hx
      · rw [List.mem_singleton.1 hx]; exact ⟨hsm, hcur, by show (z - 2000).natAbs <= 7000; omega⟩
    · rcases List.mem_append.1 hx with hx | hx
      · exact sub5 x hx
      · rw [List.mem_singleton.1 hx, List.take_succ_eq_append_getElem hj5, hs]
        exact List.mem_append_right _ (List.mem_singleton.2 rfl)
    · exact (hc12.ext Z14).keep ch15 (na (fun e => nr1 e.symm))
    · exact (((hN7.ext Y10).chg ch12 (na nr2)).ext Z14).chg ch15 (na (by omega))
    · exact (((hr7.ext Y10).chg ch12 (na nr)).ext Z14).chg ch15 (na (by omega))
    · have h9 := ((hX7.trans Y10.toChg).trans ch12).trans Z14.toChg
      exact chg_fresh h9 ch15 sR
  · obtain ⟨w16, st16, hr16, ch16, z16⟩ := hr.storeA0 (P := P) (t := T_impl_Book) (xs := [.slice ap an ac]) (by kernel_rfl) rfl (by simp [Value.oneCell'])
    refine ⟨_, _, _, hA.loadA0 (by kernel_rfl), w16, st16, _, _, _, hr16.loadA0 (by kernel_rfl), l, f, _, _, _, rfl, (hO.chg ch16 (fun x hx => na (by have := hO.lt x hx; omega))).mono (by omega), hD, ?_⟩
    exact chg_fresh hX ch16 (fun q hq => by have := List.mem_singleton.1 hq; omega)
theorem spec_MakeBook_c {w : World} {p : Option Addr} {n c : Nat} (h : ByR w p n) (hn : n <= 1048576) : Ret P n_spec_MakeBook [.slice p n c] w fun v w' => ∃ (l : List B3) (f : List Nat) (p' : Option Addr) (n' c' : Nat), v = .agg ⟨[.slice p' n' c']⟩ /\ OwnRows w' w.heap.size T_impl_Acct 4 p' n' c' (l.map bkR) f /\ DBk l /\ Ext w w' := by
  refine spec_MakeBook_ret ?_
  unfold spec_MakeBook
  intro r w1 hn1
  have e1 := hn1.r_eq; have s1 := hn1.size
  refine Ret.at (spec_l01New_c (h.ext hn1.ext) hn) ?_
  rintro v w2 ⟨rc, rfl, hr, hc, y2⟩
  refine ⟨_, rfl, ?_⟩
  have X2 := hn1.ext.trans y2
  have hne : 0 < n -> ∀ q, p.map (·.block) = some q -> q ≠ rc := h.ne (by omega)
  refine Ret.at (spec_l17Draw_c hc (h.ext X2) hne hn) ?_
  rintro v w3 ⟨l, f, ap, an, ac, rfl, hR, hD, ch3⟩
  refine ⟨_, _, _, rfl, ?_⟩
  have b3 := (hn1.blk.ext y2).chg ch3 (fun hm => by have := List.mem_singleton.1 hm; omega)
  obtain ⟨w4, st4, b4, ch4, z4⟩ := b3.storeA0 (P := P) (t := T_impl_Book) (xs := [.slice ap an ac]) (by kernel_rfl) rfl (by simp [Value.oneCell'])
  refine ⟨w4, st4, _, _, _, b4.loadA0 (by kernel_rfl), l, f, _, _, _, rfl, (hR.chg ch4 (fun x hx hm => by have := hR.lt x hx; have := List.mem_singleton.1 hm; have := hc.lt; omega)).mono X2.le, hD, (X2.chg ch3 (fun q hq => by have := List.mem_singleton.1 hq; omega)).chg ch4 (fun q hq => by have := List.mem_singleton.1 hq; omega)⟩
end Go.Proofs.YtbgokfhcgcoipaaGreatDoor
namespace Go.Proofs.YtbgokfhcgcoipaaGreatDoor
open Go Go.Proofs.YtbgokfhcgcoipaaGreatDoor.Sx
theorem moneyMk_ok {c : ByteArray} {z : Int} (h : moneyOk (.str c :: enc z) = true) : moneyMk c z = .str c :: enc z := by unfold moneyMk; rw [if_pos h]
theorem impl_IntSign_c {w : World} {xs : List Value} {z : Int} (h : Reps w xs (enc z)) (hok : intOk (enc z) = true) : Ret P n_impl_IntSign [.agg ⟨xs⟩] w fun v w' => v = .int .i64 (sgn z) /\ Ext w w' := by
  have hr := h
  obtain ⟨a0, a1p, a1n, a1c, a1z, rfl, hd, ha⟩ := open_Signed h rfl
  refine impl_IntSign_ret ?_
  unfold impl_IntSign
  intro r w1 hn1
  refine ⟨_, _, _, _, hn1.blk.loadA0 (by kernel_rfl), ?_⟩
  refine Ret.at (impl_IntOk_c (hr.ext hn1.ext) rfl) ?_
  rintro v w2 ⟨hv, y2⟩
  subst hv
  rw [hok]
  refine ⟨_, rfl, fun e => absurd e (by simp), fun _ => ⟨_, _, _, _, (hn1.blk.ext y2).loadA0 (by kernel_rfl), ?_⟩⟩
  refine Ret.at (impl_intSign_c (hr.ext (hn1.ext.trans y2))) ?_
  rintro v w3 ⟨hv, y3⟩
  subst hv
  exact ⟨_, rfl, rfl, (hn1.ext.trans y2).trans y3⟩
theorem impl_MoneyOf_c {w : World} (cur : ByteArray) {n : Int} (h0 : -9223372036854775808 <= n) (h1 : n <= 9223372036854775807) (ht : Tab w) :
    Ret P n_impl_MoneyOf [.string cur, .int .i64 n] w fun v w' => ∃ vs f, v = .tuple #[.agg ⟨vs⟩, .bool (moneyOk (.str cur :: enc n))] /\ Owns w' w.heap.size vs (moneyMk cur n) f /\ f.Nodup /\ Ext w w' := by
  refine impl_MoneyOf_ret ?_
  unfold impl_MoneyOf
  intro r w1 hn1
  have e1 := hn1.r_eq; have s1 := hn1.size
  refine Ret.at (impl_IntOf_c h0 h1) ?_
  rintro v w2 ⟨vs2, f2, hv, ho2, nd2, y2⟩
  subst hv
  obtain ⟨a0, ap, an, ac, az, rfl, _, _⟩ := open_Signed ho2.reps (enc_code _)
  have l2 := y2.le
  have X2 := hn1.ext.trans y2
  refine ⟨_, _, _, _, rfl, ?_⟩
  refine Ret.at (impl_moneyOf_c (ht.ext X2) cur ho2 nd2 (by omega)) ?_
  rintro v w3 ⟨vs3, f3, hv, ho3, nd3, y3⟩
  subst hv
  have l3 := y3.le
  obtain ⟨b0, b1, bp, bn, bc, bz, rfl, _, _⟩ := open_Money ho3.reps (moneyMk_code _ _)
  obtain ⟨W', st', ld', ow', xx', _, _⟩ := agg_end (t := T_impl_Money) ((hn1.blk.ext y2).ext y3) (X2.trans y3) (by omega) ho3 (by kernel_rfl) rfl (by omega) (by omega)
  exact ⟨_, _, _, _, _, _, rfl, W', st', _, _, _, _, _, ld', _, f3, rfl, ow', nd3, xx'⟩
end Go.Proofs.YtbgokfhcgcoipaaGreatDoor
namespace Go.Proofs.YtbgokfhcgcoipaaGreatDoor
open Go Go.Proofs.YtbgokfhcgcoipaaGreatDoor.Sx
theorem ba_get {s : ByteArray} {i : Nat} (h : i < s.data.toList.length) : s[((i : Nat) : Int).toNat]? = some (s.data.toList[i]'h) := by
  rw [Int.toNat_natCast]
  exact getElem?_pos s i h
theorem take_drop_snoc {l : List UInt8} {a i : Nat} (h : a <= i) (hi : i < l.length) : (l.take (i + 1)).drop a = (l.take i).drop a ++ [l[i]'hi] := by
  rw [List.take_succ_eq_append_getElem hi, List.drop_append_of_le_length (by rw [List.length_take]; omega)]
end Go.Proofs.YtbgokfhcgcoipaaGreatDoor
namespace Go.Proofs.YtbgokfhcgcoipaaGreatDoor
open Go Go.Proofs.YtbgokfhcgcoipaaGreatDoor.Sx
def StrsR (w : World) (p : Option Addr) (n c : Nat) (l : List ByteArray) : Prop :=
 l.length = n /\ n <= c /\ c <= 9223372036854775807 /\ (0 < n -> ∃ b off, p = some ⟨b, off, none⟩ /\ Seg w b off (l.map Value.string))
theorem StrsR.ext {w w' : World} {p : Option Addr} {n c : Nat} {l : List ByteArray} (h : StrsR w p n c l) (he : Ext w w') : StrsR w' p n c l :=
  ⟨h.1, h.2.1, h.2.2.1, fun hn => let ⟨b, off, hp, hs⟩ := h.2.2.2 hn; ⟨b, off, hp, hs.ext he⟩⟩
theorem StrsR.at {P : Program} {w : World} {p : Option Addr} {n c k : Nat} {l : List ByteArray} (h : StrsR w p n c l) {t : TypeId} (ht : cellT P t = true) (hk : k < n) :
    ∃ a, p = some a /\ Loads P t (a.add (k * 1)) (.string (l[k]'(by rw [h.1]; exact hk))) w := by
  obtain ⟨b, off, hp, hs⟩ := h.2.2.2 (by omega)
  refine ⟨_, hp, ?_⟩
  rw [Nat.mul_one]
  exact hs.load ht (by simp [List.getElem?_eq_getElem (by rw [h.1]; exact hk : k < l.length)])
theorem own_strs {w : World} {base : Nat} {e : TypeId} {p : Option Addr} {n c : Nat} {l : List ByteArray} (h : Own w base e 1 p n c (l.map Value.string)) : StrsR w p n c l :=
  ⟨by simpa using h.len, h.le, h.capLe, fun hn => let ⟨b, hp, _, hs⟩ := h.seg hn; ⟨b, 0, hp, hs⟩⟩
end Go.Proofs.YtbgokfhcgcoipaaGreatDoor
namespace Go.Proofs.YtbgokfhcgcoipaaGreatDoor
open Go Go.Shelf
def ren137 : Ren := ⟨fun x => match x with | 137 => 160 | 217 => 220 | 266 => 269 | n => n, fun x => match x with | 9 => 9 | 5 => 5 | 3 => 3 | n => n, fun x => x⟩
theorem lays137 : Lays.n137 Tryz.prog ren137 := {
  mixed := by kernel_rfl,
  f137 := Tryz.func160.trans (congrArg some (by kernel_rfl)),
  f217 := Tryz.func220.trans (congrArg some (by kernel_rfl)),
  f266 := Tryz.func269.trans (congrArg some (by kernel_rfl)),
  t3 := Tryz.underlying3,
  a3 := Tryz.isAgg3,
  z3 := Tryz.sizeOf3,
  v3 := Tryz.zeroValue3,
  t5 := Tryz.underlying5,
  a5 := Tryz.isAgg5,
  z5 := Tryz.sizeOf5,
  v5 := Tryz.zeroValue5,
  t9 := Tryz.underlying9,
  a9 := Tryz.isAgg9,
  z9 := Tryz.sizeOf9,
  v9 := Tryz.zeroValue9 }
end Go.Proofs.YtbgokfhcgcoipaaGreatDoor
namespace Go.Proofs.YtbgokfhcgcoipaaGreatDoor
open Go Go.Proofs.YtbgokfhcgcoipaaGreatDoor.Sx
theorem sliceT_cut : sliceT P T_s_string T_string (.string ByteArray.empty) 1 16 := ⟨by kernel_rfl, by kernel_rfl, rfl, by decide⟩
theorem index_one (c x : UInt8) : decide ((0 : Int) <= Lib.indexByte [c] x) = decide (x = c) := by
  unfold Lib.indexByte
  by_cases h : c = x
  · subst h; simp
  · have h2 : x ≠ c := fun e => h e.symm
    simp [h, h2, Lib.indexByte]
theorem impl_CutAt_c {w : World} (s : ByteArray) (c : UInt8) (hs : s.size <= 1048576) : Ret P n_impl_CutAt [.string s, .string ⟨#[c]⟩] w fun v w' => ∃ p n k ps, v = .slice p n k /\ StrsR w' p n k ps /\ ps.map (·.data.toList) = cuts c [] s.data.toList /\ Ext w w' := by
  obtain ⟨l, hl⟩ : ∃ l, s.data.toList = l := ⟨_, rfl⟩
  have hsl : s.size = l.length := by rw [ba_size, hl]
  refine impl_CutAt_ret ?_
  unfold impl_CutAt
  intro r w1 hn1
  obtain ⟨Inv, hI⟩ : ∃ I : Option Addr -> Nat -> Nat -> Int -> Int -> World -> Prop, ∀ p n k a i W, I p n k a i W ↔ ∃ (j b : Nat) (ps : List ByteArray), i = j /\ j <= l.length /\ a = b /\ b <= j /\ n <= j /\ Own W w.heap.size T_string 1 p n k (ps.map Value.string) /\ Ext w W /\ ps.map (·.data.toList) ++ cuts c ((l.take j).drop b) (l.drop j) = cuts c [] l := ⟨_, fun _ _ _ _ _ _ => Iff.rfl⟩
  obtain ⟨mu, hmu⟩ : ∃ m : Option Addr -> Nat -> Nat -> Int -> Int -> World -> Nat, ∀ p n k a i W, m p n k a i W = l.length - i.toNat := ⟨fun _ _ _ _ i _ => l.length - i.toNat, fun _ _ _ _ _ _ => rfl⟩
  have e1 := hn1.r_eq
  refine ⟨Inv, mu, (hI _ _ _ _ _ _).2 ⟨0, 0, [], rfl, by omega, rfl, by omega, by omega, Own.of_blk0 hn1.blk (by omega) (by simp) (by decide), hn1.ext, rfl⟩, ?_⟩
  intro junk wr p n k a i hinv
  obtain ⟨j, b, ps, hij, hj, hab, hbj, hnj, ho, hx, hcut⟩ := (hI _ _ _ _ _ _).1 hinv
  subst hij; subst hab
  have lx := hx.le
  have ext : ∀ (b2 j2 : Nat), (s.extract b2 j2).data.toList = (l.take j2).drop b2 := fun b2 j2 => by
    rw [ByteArray.data_extract, Array.toList_extract, hl, List.extract_eq_take_drop, List.drop_take]
  refine ifD (fun hlt => ?_) (fun hge => ?_)
  · have hjl : j < l.length := by omega
    have hdr : l.drop j = l[j]'hjl :: l.drop (j + 1) := List.drop_eq_getElem_cons hjl
    rw [hdr, cuts] at hcut
    refine ⟨by omega, l[j]'hjl, by subst hl; exact ba_get hjl, ?_⟩
    refine (Any.strings_IndexByte lays137 ⟨#[c]⟩ _ wr).mono ?_
    rintro e w2 ⟨rfl, rfl⟩
    have i1 := index_one c (l[j]'hjl)
    have next : ∀ (p2 : Option Addr) (n2 k2 b2 : Nat) (ps2 : List ByteArray) (W : World), b2 <= j + 1 -> n2 <= j + 1 -> Own W w.heap.size T_string 1 p2 n2 k2 (ps2.map Value.string) -> Ext w W -> ps2.map (·.data.toList) ++ cuts c ((l.take (j + 1)).drop b2) (l.drop (j + 1)) = cuts c [] l -> ∀ R, impl_CutAt_j0 w2 Inv mu p n k (b : Int) (j : Int) p2 n2 k2 (b2 : Int) W R := by
      intro p2 n2 k2 b2 ps2 W h1 h2 h3 h4 h5 R
      unfold impl_CutAt_j0
      exact exW ⟨by omega, by omega⟩ ⟨(hI _ _ _ _ _ _).2 ⟨j + 1, b2, ps2, rfl, by omega, rfl, h1, h2, h3, h4, h5⟩, by rw [hmu, hmu]; omega⟩
    have h8 : (((l[j]'hjl).toNat : Nat) : Int).toNat.toUInt8 = l[j]'hjl := by rw [Int.toNat_natCast]; exact UInt8.ofNat_toNat
    rw [h8]
    refine ⟨_, rfl, fun hy => ?_, fun hn => ?_⟩
    · have hc : l[j]'hjl = c := of_decide_eq_true (i1.symm.trans hy)
      rw [if_pos hc] at hcut
      refine ⟨⟨by omega, by omega⟩, ⟨by omega, by omega⟩, ?_⟩
      intro r1 w3 hn3
      have l3 := hn3.ext.le
      obtain ⟨p', k', w4, ha, ho4, ch, _⟩ := (ho.ext hn3.ext).push1 (P := P) sliceT_cut (by omega) hn3.blk rfl (by simp [Value.oneCell']) (by omega) (by decide)
      refine ⟨p', _, k', w4, ha, exW ⟨by omega, by omega⟩ ?_⟩
      have := next p' (n + 1) k' (j + 1) (ps ++ [s.extract b j]) w4 (by omega) (by omega) (by rw [List.map_append]; exact ho4) ((hx.trans hn3.ext).chg ch fun q hq => (World.ownsRow.lt ho q (by cases p <;> simp_all [Value.ownBlock])).1) (by
        rw [List.map_append, List.append_assoc, <- hcut, List.drop_take_self]
        show _ ++ ([(s.extract b j).data.toList] ++ _) = _
        rw [ext]; rfl)
      exact this _
    · have hc : l[j]'hjl ≠ c := of_decide_eq_false (i1.symm.trans hn)
      rw [if_neg hc, <- take_drop_snoc hbj hjl] at hcut
      exact next p n k b ps _ (by omega) (by omega) ho hx hcut _
  · have hjn : j = l.length := by omega
    rw [hjn, List.drop_length, cuts] at hcut
    refine ⟨⟨by omega, by omega⟩, ?_⟩
    intro r1 w3 hn3
    have l3 := hn3.ext.le
    obtain ⟨p', k', w4, ha, ho4, ch, _⟩ := (ho.ext hn3.ext).push1 (P := P) sliceT_cut (by omega) hn3.blk rfl (by simp [Value.oneCell']) (by omega) (by decide)
    refine ⟨p', _, k', w4, ha, p', n + 1, k', ps ++ [s.extract b s.size], rfl, own_strs (base := w.heap.size) (e := T_string) (by rw [List.map_append]; exact ho4), ?_, (hx.trans hn3.ext).chg ch fun q hq => (World.ownsRow.lt ho q (by cases p <;> simp_all [Value.ownBlock])).1⟩
    rw [List.map_append, hl, <- hcut]
    show _ ++ [(s.extract b s.size).data.toList] = _
    rw [ext, hsl]
end Go.Proofs.YtbgokfhcgcoipaaGreatDoor
namespace Go.Proofs.YtbgokfhcgcoipaaGreatDoor
open Go Go.Proofs.YtbgokfhcgcoipaaGreatDoor.Sx
theorem impl_MoneySame_c {w : World} {xs ys : List Value} {dx dy : List D0} (h : Reps w xs dx) (k : Reps w ys dy) (hc : dx.map D0.code = [.str, .bool, .ints]) (kc : dy.map D0.code = [.str, .bool, .ints]) :
    Ret P n_impl_MoneySame [.agg ⟨xs⟩, .agg ⟨ys⟩] w fun v w' => v = .bool (decide (dx = dy)) /\ Ext w w' := by
  obtain ⟨a0, a1, a2p, a2n, a2c, a2z, rfl, rfl, ha⟩ := open_Money h hc
  obtain ⟨b0, b1, b2p, b2n, b2c, b2z, rfl, rfl, hb⟩ := open_Money k kc
  refine impl_MoneySame_ret ?_
  unfold impl_MoneySame
  intro r w1 hn1 r1 w2 hn2
  have x := hn1.ext.trans hn2.ext
  have k0 := hn1.blk.ext hn2.ext; have k1 := hn2.blk
  refine ⟨_, k0.load (by kernel_rfl) rfl, _, k1.load (by kernel_rfl) rfl, ifD (fun e => ?_) (fun e => ⟨dec_no (fun h => e (by simp at h; exact h.1)), x⟩)⟩
  subst e
  refine ⟨_, _, _, _, k0.loadA (xs := [.bool a1, .slice a2p a2n a2c]) (by kernel_rfl) rfl, _, _, _, _, k1.loadA (xs := [.bool b1, .slice b2p b2n b2c]) (by kernel_rfl) rfl, ?_⟩
  refine Ret.at (impl_intSame_c (dx := [.bool a1, .ints a2z]) (dy := [.bool b1, .ints b2z]) ⟨rfl, ⟨_, _, _, rfl, ha.ext x⟩, trivial⟩ ⟨rfl, ⟨_, _, _, rfl, hb.ext x⟩, trivial⟩ rfl rfl) ?_
  rintro v w3 ⟨hv, y⟩
  subst hv
  exact ⟨_, rfl, by simp, x.trans y⟩
end Go.Proofs.YtbgokfhcgcoipaaGreatDoor
namespace Go.Proofs.YtbgokfhcgcoipaaGreatDoor
open Go Go.Proofs Go.Shelf
def lay190_ren : Go.Shelf.Ren := ⟨fun | 190 => 140 | 125 => 204 | 258 => 203 | 128 => 252 | 129 => 253 | 302 => 243 | 303 => 244 | 304 => 245 | 305 => 246 | 306 => 247 | 307 => 248 | 308 => 249 | 309 => 250 | 310 => 251 | 333 => 297 | 329 => 298 | 330 => 299 | 334 => 300 | 335 => 301 | 336 => 259 | 344 => 330 | n => n, fun | 31 => 98 | 9 => 9 | 3 => 3 | 46 => 235 | 0 => 0 | 51 => 223 | 53 => 153 | 4 => 4 | 183 => 260 | 182 => 259 | 131 => 118 | 5 => 5 | 218 => 292 | 222 => 296 | 228 => 328 | 229 => 329 | n => n, fun | n => n⟩
set_option maxRecDepth 1000000 in
theorem lay190 : Go.Proofs.Lays.n190 Tryz.prog lay190_ren := {
  mixed := by kernel_rfl
  f125 := Tryz.func204.trans (congrArg some (by kernel_rfl))
  f128 := Tryz.func252.trans (congrArg some (by kernel_rfl))
  f129 := Tryz.func253.trans (congrArg some (by kernel_rfl))
  f190 := Tryz.func140.trans (congrArg some (by kernel_rfl))
  f258 := Tryz.func203.trans (congrArg some (by kernel_rfl))
  f302 := Tryz.func243.trans (congrArg some (by kernel_rfl))
  f303 := Tryz.func244.trans (congrArg some (by kernel_rfl))
  f304 := Tryz.func245.trans (congrArg some (by kernel_rfl))
  f305 := Tryz.func246.trans (congrArg some (by kernel_rfl))
  f306 := Tryz.func247.trans (congrArg some (by kernel_rfl))
  f307 := Tryz.func248.trans (congrArg some (by kernel_rfl))
  f308 := Tryz.func249.trans (congrArg some (by kernel_rfl))
  f309 := Tryz.func250.trans (congrArg some (by kernel_rfl))
  f310 := Tryz.func251.trans (congrArg some (by kernel_rfl))
  f329 := Tryz.func298.trans (congrArg some (by kernel_rfl))
  f330 := Tryz.func299.trans (congrArg some (by kernel_rfl))
  f333 := Tryz.func297.trans (congrArg some (by kernel_rfl))
  f334 := Tryz.func300.trans (congrArg some (by kernel_rfl))
  f335 := Tryz.func301.trans (congrArg some (by kernel_rfl))
  f336 := Tryz.func259.trans (congrArg some (by kernel_rfl))
  f344 := Tryz.func330.trans (congrArg some (by kernel_rfl))
  t0 := Tryz.underlying0
  a0 := Tryz.isAgg0
  z0 := Tryz.sizeOf0
  v0 := Tryz.zeroValue0
  t3 := Tryz.underlying3
  a3 := Tryz.isAgg3
  z3 := Tryz.sizeOf3
  v3 := Tryz.zeroValue3
  t4 := Tryz.underlying4
  a4 := Tryz.isAgg4
  z4 := Tryz.sizeOf4
  v4 := Tryz.zeroValue4
  t5 := Tryz.underlying5
  a5 := Tryz.isAgg5
  z5 := Tryz.sizeOf5
  v5 := Tryz.zeroValue5
  t9 := Tryz.underlying9
  a9 := Tryz.isAgg9
  z9 := Tryz.sizeOf9
  v9 := Tryz.zeroValue9
  t31 := Tryz.underlying98
  a31 := Tryz.isAgg98
  z31 := Tryz.sizeOf98
  v31 := Tryz.zeroValue98
  t46 := Tryz.underlying235
  a46 := Tryz.isAgg235
  z46 := Tryz.sizeOf235
  v46 := Tryz.zeroValue235
  t51 := Tryz.underlying223
  a51 := Tryz.isAgg223
  z51 := Tryz.sizeOf223
  v51 := Tryz.zeroValue223
  t53 := Tryz.underlying153
  a53 := Tryz.isAgg153
  z53 := Tryz.sizeOf153
  v53 := Tryz.zeroValue153
  t131 := Tryz.underlying118
  a131 := Tryz.isAgg118
  z131 := Tryz.sizeOf118
  v131 := Tryz.zeroValue118
  t182 := Tryz.underlying259
  a182 := Tryz.isAgg259
  z182 := Tryz.sizeOf259
  v182 := Tryz.zeroValue259
  t183 := Tryz.underlying260
  a183 := Tryz.isAgg260
  z183 := Tryz.sizeOf260
  v183 := Tryz.zeroValue260
  t218 := Tryz.underlying292
  a218 := Tryz.isAgg292
  z218 := Tryz.sizeOf292
  v218 := Tryz.zeroValue292
  t222 := Tryz.underlying296
  a222 := Tryz.isAgg296
  z222 := Tryz.sizeOf296
  v222 := Tryz.zeroValue296
  t228 := Tryz.underlying328
  a228 := Tryz.isAgg328
  z228 := Tryz.sizeOf328
  v228 := Tryz.zeroValue328
  t229 := Tryz.underlying329
  a229 := Tryz.isAgg329
  z229 := Tryz.sizeOf329
  v229 := Tryz.zeroValue329 }
def lay194_ren : Go.Shelf.Ren := ⟨fun | 194 => 141 | n => n, fun | 31 => 98 | 9 => 9 | 3 => 3 | 4 => 4 | 0 => 0 | n => n, fun | n => n⟩
set_option maxRecDepth 1000000 in
theorem lay194 : Go.Proofs.Lays.n194 Tryz.prog lay194_ren := {
  mixed := by kernel_rfl
  f194 := Tryz.func141.trans (congrArg some (by kernel_rfl))
  t0 := Tryz.underlying0
  a0 := Tryz.isAgg0
  z0 := Tryz.sizeOf0
  v0 := Tryz.zeroValue0
  t3 := Tryz.underlying3
  a3 := Tryz.isAgg3
  z3 := Tryz.sizeOf3
  v3 := Tryz.zeroValue3
  t4 := Tryz.underlying4
  a4 := Tryz.isAgg4
  z4 := Tryz.sizeOf4
  v4 := Tryz.zeroValue4
  t9 := Tryz.underlying9
  a9 := Tryz.isAgg9
  z9 := Tryz.sizeOf9
  v9 := Tryz.zeroValue9
  t31 := Tryz.underlying98
  a31 := Tryz.isAgg98
  z31 := Tryz.sizeOf98
  v31 := Tryz.zeroValue98 }
end Go.Proofs.YtbgokfhcgcoipaaGreatDoor
namespace Go.Proofs.YtbgokfhcgcoipaaGreatDoor
open Go Go.Proofs.YtbgokfhcgcoipaaGreatDoor.Sx
theorem sorted_ext {α : Type} {r : α -> α -> Prop} (irr : ∀ a, ¬ r a a) (tr : ∀ a b c, r a b -> r b c -> r a c) : ∀ {A B : List α}, A.Pairwise r -> B.Pairwise r -> (∀ x, x ∈ A ↔ x ∈ B) -> A = B
  | [], [], _, _, _ => rfl
  | [], b :: B, _, _, h => by have := (h b).2 (.head _); cases this
  | a :: A, [], _, _, h => by have := (h a).1 (.head _); cases this
  | a :: A, b :: B, hA, hB, h => by
    obtain ⟨a1, a2⟩ := List.pairwise_cons.1 hA
    obtain ⟨b1, b2⟩ := List.pairwise_cons.1 hB
    have hab : a = b := by
      rcases List.mem_cons.1 ((h a).1 (.head _)) with e | e
      · exact e
      rcases List.mem_cons.1 ((h b).2 (.head _)) with e' | e'
      · exact e'.symm
      exact absurd (tr _ _ _ (b1 a e) (a1 b e')) (irr b)
    subst hab
    congr 1
    refine sorted_ext irr tr a2 b2 fun x => ⟨fun hx => ?_, fun hx => ?_⟩
    · rcases List.mem_cons.1 ((h x).1 (.tail _ hx)) with e | e
      · subst e; exact absurd (a1 x hx) (irr x)
      · exact e
    · rcases List.mem_cons.1 ((h x).2 (.tail _ hx)) with e | e
      · subst e; exact absurd (b1 x hx) (irr x)
      · exact e
theorem lt_bytes : ∀ x y : List UInt8, x < y ↔ Op.bytesLess x y = true
  | [], [] => by simp [Op.bytesLess]
  | [], b :: y => by simp [Op.bytesLess]
  | a :: x, [] => by simp [Op.bytesLess]
  | a :: x, b :: y => by
    rw [List.cons_lt_cons_iff, lt_bytes x y]
    simp [Op.bytesLess]
theorem le_bytes (x y : List UInt8) : x <= y ↔ Op.bytesLess y x = false := by
  rw [<- List.not_lt, lt_bytes]
  simp
def sortU (l : List (List UInt8)) : List (List UInt8) := l.mergeSort fun x y => decide (x <= y)
theorem sortU_perm (l : List (List UInt8)) : (sortU l).Perm l := List.mergeSort_perm _ _
theorem sortU_sorted (l : List (List UInt8)) : (sortU l).Pairwise fun x y => Op.bytesLess y x = false := by
  have := List.pairwise_mergeSort (le := fun x y : List UInt8 => decide (x <= y)) (fun a b c h g => ?_) (fun a b => ?_) l
  · exact this.imp fun {a b} h => (le_bytes _ _).1 (of_decide_eq_true h)
  · have h := (le_bytes _ _).1 (of_decide_eq_true h)
    have g := (le_bytes _ _).1 (of_decide_eq_true g)
    refine decide_eq_true ((le_bytes _ _).2 ?_)
    cases hca : Op.bytesLess c a with
    | false => rfl
    | true =>
      cases hbc : Op.bytesLess b c with
      | true => rw [bytes_trans b c a hbc hca] at h; cases h
      | false =>
        have := bytes_tri c b g hbc
        subst this
        rw [h] at hca; cases hca
  · cases h : Op.bytesLess b a with
    | false => rw [decide_eq_true ((le_bytes _ _).2 h)]; rfl
    | true =>
      have : Op.bytesLess a b = false := by
        cases h2 : Op.bytesLess a b with
        | false => rfl
        | true => have := bytes_trans a b a h2 h; rw [bytes_irrefl] at this; cases this
      rw [decide_eq_true ((le_bytes b a).2 this), Bool.or_true]
def unB (l : List UInt8) : ByteArray := ⟨l.toArray⟩
def toB (s : ByteArray) : List UInt8 := s.data.toList
theorem unB_toB (s : ByteArray) : unB (toB s) = s := by cases s; simp [unB, toB]
theorem toB_unB (l : List UInt8) : toB (unB l) = l := by simp [unB, toB]
theorem toB_eq (s : ByteArray) : s.toList = toB s := by rw [ByteArray.toList_eq]; rfl
theorem bLess_toB (a b : ByteArray) : bLess a b = Op.bytesLess (toB a) (toB b) := by unfold bLess; rw [toB_eq, toB_eq]
def sortB (l : List ByteArray) : List ByteArray := (sortU (l.map toB)).map unB
theorem bLess_ext {A B : List ByteArray} (hA : A.Pairwise fun x y => bLess x y = true) (hB : B.Pairwise fun x y => bLess x y = true) (h : ∀ x, x ∈ A ↔ x ∈ B) : A = B :=
  sorted_ext (r := fun x y => bLess x y = true) (fun a h => by rw [bLess_irrefl] at h; cases h) (fun a b c h g => bLess_trans h g) hA hB h
end Go.Proofs.YtbgokfhcgcoipaaGreatDoor
namespace Go.Proofs.YtbgokfhcgcoipaaGreatDoor
open Go Go.Proofs.YtbgokfhcgcoipaaGreatDoor.Sx
def cursS (l : List ByteArray) : List (ByteArray × Int) := l.foldl (fun s c => sumAdd s c 0) []
def cursL (l : List ByteArray) : List ByteArray := (cursS l).map (·.1)
theorem sumAdd_mem {s : List (ByteArray × Int)} {c : ByteArray} {u : Int} (x : ByteArray) : x ∈ (sumAdd s c u).map (·.1) ↔ x = c ∨ x ∈ s.map (·.1) := by
  constructor
  · intro h
    obtain ⟨y, hy, rfl⟩ := List.mem_map.1 h
    rcases sumAdd_fst hy with e | ⟨z, hz, e⟩
    · exact .inl e
    · exact .inr (List.mem_map.2 ⟨z, hz, e⟩)
  · cases hh : hasAt s c with
    | true =>
      obtain ⟨v, h1, h2⟩ := sumAdd_has (u := u) hh
      have e : (sumAdd s c u).map (·.1) = s.map (·.1) := by
        rw [h2]
        apply List.ext_getElem?
        intro i
        rw [List.getElem?_map, List.getElem?_map, List.getElem?_set]
        split
        · rename_i hi
          subst hi
          rw [h1]
          simp [(List.getElem?_eq_some_iff.1 h1).1]
        · rfl
      rw [e]
      rintro (rfl | h)
      · exact List.mem_map.2 ⟨_, List.mem_of_getElem? h1, rfl⟩
      · exact h
    | false =>
      rw [sumAdd_new hh]
      rw [List.map_append, List.map_cons, List.mem_append, List.mem_cons]
      rintro (rfl | h)
      · exact .inr (.inl rfl)
      · rw [<- List.take_append_drop (posOf s c) s, List.map_append, List.mem_append] at h
        rcases h with h | h
        · exact .inl h
        · exact .inr (.inr h)
theorem cursS_ordered (l : List ByteArray) : Ordered (cursS l) := by
  unfold cursS
  have gen : ∀ (l : List ByteArray) (s : List (ByteArray × Int)), Ordered s -> Ordered (l.foldl (fun s c => sumAdd s c 0) s) := by
    intro l
    induction l with
    | nil => intro s h; exact h
    | cons c l ih => intro s h; exact ih _ (sumAdd_ordered h)
  exact gen l [] List.Pairwise.nil
theorem cursL_sorted (l : List ByteArray) : (cursL l).Pairwise fun x y => bLess x y = true := by
  unfold cursL
  rw [List.pairwise_map]
  exact cursS_ordered l
theorem cursL_mem (l : List ByteArray) (x : ByteArray) : x ∈ cursL l ↔ x ∈ l := by
  unfold cursL cursS
  have gen : ∀ (l : List ByteArray) (s : List (ByteArray × Int)), x ∈ (l.foldl (fun s c => sumAdd s c 0) s).map (·.1) ↔ x ∈ l ∨ x ∈ s.map (·.1) := by
    intro l
    induction l with
    | nil => intro s; simp
    | cons c l ih =>
      intro s
      rw [List.foldl_cons, ih, sumAdd_mem, List.mem_cons]
      constructor
      · rintro (h | h | h)
        · exact .inl (.inr h)
        · exact .inl (.inl h)
        · exact .inr h
      · rintro ((h | h) | h)
        · exact .inr (.inl h)
        · exact .inl h
        · exact .inr (.inr h)
  rw [gen]; simp
theorem cursS_len (l : List ByteArray) : (cursS l).length <= l.length := by
  unfold cursS
  have gen : ∀ (l : List ByteArray) (s : List (ByteArray × Int)), (l.foldl (fun s c => sumAdd s c 0) s).length <= l.length + s.length := by
    intro l
    induction l with
    | nil => intro s; simp
    | cons c l ih =>
      intro s
      have := ih (sumAdd s c 0)
      have := (sumAdd_len s c 0).1
      rw [List.foldl_cons, List.length_cons]
      omega
  have := gen l []
  simpa using this
theorem compact_strict {zs : List (List UInt8)} (h : zs.Pairwise fun x y => Op.bytesLess y x = false) : (Lib.compact zs).Pairwise fun x y => Op.bytesLess x y = true := by
  unfold Lib.compact Lib.compactUpTo
  rw [List.pairwise_map]
  refine List.Pairwise.imp_of_mem (fun {i j} hi hj hij => ?_) ((List.pairwise_lt_range (n := zs.length)).filter _)
  rw [List.mem_filter, List.mem_range] at hi hj
  have hj2 := hj.2
  simp only [Lib.keeps, decide_eq_true_eq] at hj2
  have hne : (zs.toArray)[j]! ≠ (zs.toArray)[j - 1]! := by
    rcases hj2 with h0 | h0
    · omega
    · exact h0
  have at' : ∀ k (hk : k < zs.length), (zs.toArray)[k]! = zs[k] := fun k hk => by
    rw [getElem!_pos _ k (by simpa using hk)]; simp
  rw [at' j hj.1, at' (j - 1) (by omega)] at hne
  rw [at' i hi.1, at' j hj.1]
  have hs := List.pairwise_iff_getElem.1 h
  have h1 := hs (j - 1) j (by omega) hj.1 (by omega)
  have h2 : Op.bytesLess zs[j - 1] zs[j] = true := by
    cases hq : Op.bytesLess zs[j - 1] zs[j] with
    | true => rfl
    | false => exact absurd (bytes_tri _ _ h1 hq) hne
  rcases Nat.lt_or_ge i (j - 1) with hlt | hge
  · have h3 := hs i (j - 1) (by omega) (by omega) hlt
    cases hq : Op.bytesLess zs[i] zs[j] with
    | true => rfl
    | false =>
      have := bytes_tri _ _ h3
      cases hq2 : Op.bytesLess zs[i] zs[j - 1] with
      | true => rw [bytes_trans _ _ _ hq2 h2] at hq; cases hq
      | false =>
        rw [bytes_tri _ _ hq2 h3] at hq
        rw [h2] at hq; cases hq
  · have : i = j - 1 := by omega
    subst this
    exact h2
theorem compact_mem (zs : List (List UInt8)) (x : List UInt8) : x ∈ Lib.compact zs ↔ x ∈ zs := by
  have at' : ∀ k (hk : k < zs.length), (zs.toArray)[k]! = zs[k] := fun k hk => by
    rw [getElem!_pos _ k (by simpa using hk)]; simp
  unfold Lib.compact Lib.compactUpTo
  rw [List.mem_map]
  constructor
  · rintro ⟨i, hi, rfl⟩
    rw [List.mem_filter, List.mem_range] at hi
    rw [at' i hi.1]
    exact List.getElem_mem _
  · intro hx
    obtain ⟨i, hi, rfl⟩ := List.getElem_of_mem hx
    have key : ∀ i (hi : i < zs.length), ∃ a, a ∈ (List.range zs.length).filter (Lib.keeps zs.toArray) /\ (zs.toArray)[a]! = zs[i] := by
      intro i
      induction i with
      | zero => intro hi; exact ⟨0, List.mem_filter.2 ⟨List.mem_range.2 hi, by simp [Lib.keeps]⟩, at' 0 hi⟩
      | succ i ih =>
        intro hi
        by_cases he : zs[i + 1] = zs[i]
        · obtain ⟨a, h1, h2⟩ := ih (by omega)
          exact ⟨a, h1, by rw [h2, he]⟩
        · refine ⟨i + 1, List.mem_filter.2 ⟨List.mem_range.2 hi, ?_⟩, at' _ hi⟩
          refine decide_eq_true (.inr ?_)
          rw [at' (i + 1) hi, show i + 1 - 1 = i by omega, at' i (by omega)]
          exact he
    exact key i hi
def compB (l : List ByteArray) : List ByteArray := (Lib.compact (l.map toB)).map unB
theorem compB_sortB (l : List ByteArray) : compB (sortB l) = cursL l := by
  have e : (sortB l).map toB = sortU (l.map toB) := by
    unfold sortB
    rw [List.map_map]
    conv => rhs; rw [<- List.map_id (sortU (l.map toB))]
    refine List.map_congr_left fun x _ => ?_
    exact toB_unB x
  refine bLess_ext ?_ (cursL_sorted l) fun x => ?_
  · unfold compB
    rw [List.pairwise_map, e]
    refine (compact_strict (sortU_sorted _)).imp fun {a b} h => ?_
    rw [bLess_toB, toB_unB, toB_unB]; exact h
  · rw [cursL_mem]
    unfold compB
    rw [List.mem_map, e]
    constructor
    · rintro ⟨y, hy, rfl⟩
      obtain ⟨z, hz, rfl⟩ := List.mem_map.1 ((sortU_perm _).mem_iff.1 ((compact_mem _ _).1 hy))
      rwa [unB_toB]
    · intro h
      exact ⟨toB x, (compact_mem _ _).2 ((sortU_perm _).mem_iff.2 (List.mem_map.2 ⟨x, h, rfl⟩)), unB_toB x⟩
end Go.Proofs.YtbgokfhcgcoipaaGreatDoor
namespace Go.Proofs.YtbgokfhcgcoipaaGreatDoor
open Go Go.Proofs.YtbgokfhcgcoipaaGreatDoor.Sx Go.Proofs Go.Sort
theorem strs_enc (ss : List ByteArray) : ss.map Value.string = (ss.map toB).map encStr := by
  rw [List.map_map]
  refine List.map_congr_left fun s _ => ?_
  exact congrArg Value.string (unB_toB s).symm
theorem enc_strs (l : List (List UInt8)) : (l.map unB).map Value.string = l.map encStr := by
  rw [List.map_map]; rfl
theorem sort_bridge {f : FuncId}
    (hc : ∀ (blk off cap : Nat) (ss : List (List UInt8)) (w : World), Holds encStr w blk off ss.toArray -> blk < w.heap.size -> ss.length < 4611686018427387904 ->
      Calls P f #[.slice (some ⟨blk, off, none⟩) ss.length cap] w fun e w' => e = .returned (.tuple #[]) /\ ∃ n os, w' = Sort.grow (putRow encStr (Sort.ahead w n) blk off (ss.mergeSort fun x y => decide (x <= y)).toArray) os)
    {w : World} {B b n c : Nat} {ss : List ByteArray} (h : Own w B T_string 1 (some ⟨b, 0, none⟩) n c (ss.map Value.string)) (hn : n <= 4000000000) :
    Ret P f [.slice (some ⟨b, 0, none⟩) n c] w fun v w' => v = .tuple #[] /\ Own w' B T_string 1 (some ⟨b, 0, none⟩) n c ((sortB ss).map Value.string) /\ Chg [b] w w' := by
  have hl : ss.length = n := by simpa using h.len
  have hlt : b < w.heap.size := (World.ownsRow.lt h b rfl).2
  rw [strs_enc] at h
  obtain ⟨h0, h1 | ⟨g, cap, cur, h1, hbase, hb, h2, h3, h4, h5⟩⟩ := h
  · cases h1.1
  simp only [Value.slice.injEq, Option.some.injEq, Addr.mk.injEq, and_true, true_and] at h1
  obtain ⟨rfl, rfl⟩ := h1
  have hl2 : n = (ss.map toB).length := by simp [hl]
  subst hl2
  have hH : Holds encStr w b 0 (ss.map toB).toArray := holds_of_block hb (by simpa using h5)
  refine Calls.mono (hc b 0 c (ss.map toB) w hH hlt (by omega)) ?_
  rintro e w' ⟨rfl, m, os, rfl⟩
  refine ⟨_, rfl, rfl, ?_, ?_⟩
  · have := ownsRow_sorted (n := m) (os := os) (ts := sortU (ss.map toB)) (by simp [sortU]) hbase hb h2 h3 h4
    unfold Own sortB
    rw [enc_strs]
    exact this
  · have hg := grownBy_sorted (w := w) (g := b) (n := m) (os := os) ((ss.map toB).mergeSort fun x y => decide (x <= y)).toArray
    exact ⟨hg.os, hg.tape, hg.output, hg.size, fun k hk hne => hg.block k hk (by simpa using hne)⟩
theorem compact_len (zs : List (List UInt8)) : (Lib.compact zs).length <= zs.length := by
  unfold Lib.compact Lib.compactUpTo
  rw [List.length_map]
  have := List.length_filter_le (Lib.keeps zs.toArray) (List.range zs.length)
  rwa [List.length_range] at this
theorem compact_bridge {f : FuncId}
    (hc : ∀ (blk off cap : Nat) (zs : List (List UInt8)) (w : World), Holds encStr w blk off zs.toArray -> zs.length <= 9223372036854775807 -> zs.length <= cap ->
      Calls P f #[.slice (some ⟨blk, off, none⟩) zs.length cap] w fun e w' => e = .returned (.slice (some ⟨blk, off, none⟩) (Lib.compact zs).length cap) /\ ∃ q, w' = putRow encStr (Sort.ahead w q) blk off (Lib.compact zs ++ List.replicate (zs.length - (Lib.compact zs).length) []).toArray)
    {w : World} {B b n c : Nat} {ss : List ByteArray} (h : Own w B T_string 1 (some ⟨b, 0, none⟩) n c (ss.map Value.string)) (hn : n <= 4000000000) :
    Ret P f [.slice (some ⟨b, 0, none⟩) n c] w fun v w' => ∃ k, v = .slice (some ⟨b, 0, none⟩) k c /\ Own w' B T_string 1 (some ⟨b, 0, none⟩) k c ((compB ss).map Value.string) /\ Chg [b] w w' := by
  have hl : ss.length = n := by simpa using h.len
  have hcap := h.le
  rw [strs_enc] at h
  obtain ⟨h0, h1 | ⟨g, cap, cur, h1, hbase, hb, h2, h3, h4, h5⟩⟩ := h
  · cases h1.1
  simp only [Value.slice.injEq, Option.some.injEq, Addr.mk.injEq, and_true, true_and] at h1
  obtain ⟨rfl, rfl⟩ := h1
  have hl2 : n = (ss.map toB).length := by simp [hl]
  subst hl2
  have hH : Holds encStr w b 0 (ss.map toB).toArray := holds_of_block hb (by simpa using h5)
  have hcl := compact_len (ss.map toB)
  refine Calls.mono (hc b 0 c (ss.map toB) w hH (by omega) hcap) ?_
  rintro e w' ⟨rfl, q, rfl⟩
  refine ⟨_, rfl, _, rfl, ?_, ?_⟩
  · have h9 := ownsRow_sorted (n := q) (os := #[]) (ts := Lib.compact (ss.map toB) ++ List.replicate ((ss.map toB).length - (Lib.compact (ss.map toB)).length) []) (by rw [List.length_append, List.length_replicate]; omega) hbase hb h2 h3 h4
    rw [Sort.grow_empty] at h9
    have h8 := Own.take (show Own _ B T_string 1 (some ⟨b, 0, none⟩) (ss.map toB).length c _ from h9) (i := (Lib.compact (ss.map toB)).length) hcl
    unfold compB
    rw [enc_strs]
    rw [Nat.mul_one, List.map_append, List.take_left' (by simp)] at h8
    exact h8
  · have hg := grownBy_sorted (w := w) (g := b) (n := q) (os := #[]) (Lib.compact (ss.map toB) ++ List.replicate ((ss.map toB).length - (Lib.compact (ss.map toB)).length) []).toArray
    rw [Sort.grow_empty] at hg
    exact ⟨hg.os, hg.tape, hg.output, hg.size, fun k hk hne => hg.block k hk (by simpa using hne)⟩
theorem slices_Sort_c {w : World} {B b n c : Nat} {ss : List ByteArray} (h : Own w B T_string 1 (some ⟨b, 0, none⟩) n c (ss.map Value.string)) (hn : n <= 4000000000) :
    Ret P n_slices_Sort_string_string [.slice (some ⟨b, 0, none⟩) n c] w fun v w' => v = .tuple #[] /\ Own w' B T_string 1 (some ⟨b, 0, none⟩) n c ((sortB ss).map Value.string) /\ Chg [b] w w' :=
  sort_bridge (fun blk off cap ss w hH hb hl => Any.slices_Sort_string lay190 blk off cap ss w hH hb hl) h hn
theorem slices_Compact_c {w : World} {B b n c : Nat} {ss : List ByteArray} (h : Own w B T_string 1 (some ⟨b, 0, none⟩) n c (ss.map Value.string)) (hn : n <= 4000000000) :
    Ret P n_slices_Compact_string_string [.slice (some ⟨b, 0, none⟩) n c] w fun v w' => ∃ k, v = .slice (some ⟨b, 0, none⟩) k c /\ Own w' B T_string 1 (some ⟨b, 0, none⟩) k c ((compB ss).map Value.string) /\ Chg [b] w w' :=
  compact_bridge (fun blk off cap zs w hH hz hcap => Any.slices_Compact_string lay194 blk off cap zs w hH hz hcap) h hn
end Go.Proofs.YtbgokfhcgcoipaaGreatDoor
namespace Go.Proofs.YtbgokfhcgcoipaaGreatDoor
open Go Go.Proofs.YtbgokfhcgcoipaaGreatDoor.Sx
def acCur : List D0 -> ByteArray
  | _ :: .str c :: _ => c
  | _ => ByteArray.empty
def bookCursL (l : List (List D0)) : List ByteArray := cursL (l.map acCur)
def strRows (ss : List ByteArray) : List (List D0) := ss.map fun c => [.str c]
def bookCurs (l : List (List D0)) : List (List D0) := strRows (bookCursL l)
theorem strRows_code (ss : List ByteArray) : ∀ x ∈ strRows ss, x.map D0.code = [.str] := fun x hx => by
  obtain ⟨c, _, rfl⟩ := List.mem_map.1 hx
  rfl
theorem strRows_cnt : ∀ (ss : List ByteArray), cntL (strRows ss) = (ss.length : Nat)
  | [] => rfl
  | s :: ss => by
    have := strRows_cnt ss
    simp only [strRows, List.map_cons, cntL, cnts, D0.cnt, List.length_cons] at this ⊢
    rw [this]; omega
theorem bookCurs_len (l : List (List D0)) : (bookCursL l).length <= l.length := by
  unfold bookCursL cursL
  rw [List.length_map]
  have := cursS_len (l.map acCur)
  rwa [List.length_map] at this
theorem bookCurs_cnt {l : List (List D0)} (h : l.length <= 1048576) : cntL (bookCurs l) <= 1000000000 := by
  unfold bookCurs
  rw [strRows_cnt]
  have := bookCurs_len l
  omega
theorem strs_flat : ∀ (ss : List ByteArray), (ss.map fun s => [Value.string s]).flatten = ss.map Value.string
  | [] => rfl
  | s :: ss => by simp [strs_flat ss]
theorem strs_allO (w : World) (B : Nat) : ∀ (ss : List ByteArray), AllO w B 1 (ss.map fun s => [Value.string s]) (strRows ss) (ss.map fun _ => [])
  | [] => trivial
  | s :: ss => ⟨rfl, Owns.str w B s, strs_allO w B ss⟩
theorem strs_own {w : World} {B : Nat} {e : TypeId} {p : Option Addr} {n c : Nat} {ss : List ByteArray} (h : Own w B e 1 p n c (ss.map Value.string)) : OwnRows w B e 1 p n c (strRows ss) (p.map (·.block)).toList := by
  refine ⟨?_, ss.map fun s => [Value.string s], ss.map fun _ => [], strs_allO w B ss, by rw [strs_flat]; exact h, ?_, by cases p <;> simp⟩
  · have := h.len
    simp only [strRows, List.length_map] at this ⊢
    omega
  · have : (ss.map fun _ => ([] : List Nat)).flatten = [] := by simp
    rw [this, List.append_nil]
theorem sliceT_str1 : sliceT P T_s_string T_string (.string ByteArray.empty) 1 16 := ⟨by kernel_rfl, by kernel_rfl, rfl, by decide⟩
theorem impl_BookCurs_c {w : World} {p : Option Addr} {n c : Nat} {l : List (List D0)} (h : RowsR w 4 p n c l) (hc : ∀ x ∈ l, x.map D0.code = [.str, .str, .bool, .ints]) (hn : n <= 1048576) (hb : ∀ x ∈ l, bulks x <= 1048576) :
    Ret P n_impl_BookCurs [.agg ⟨[.slice p n c]⟩] w fun v w' => ∃ p' n' c' f, v = .slice p' n' c' /\ OwnRows w' w.heap.size T_string 1 p' n' c' (bookCurs l) f /\ (∀ x ∈ bookCurs l, x.map D0.code = [.str]) /\ cntL (bookCurs l) <= 1000000000 /\ Ext w w' := by
  have hln := h.1
  refine impl_BookCurs_ret ?_
  unfold impl_BookCurs
  intro r w1 hn1 r1 w2 hn2
  have e1 := hn1.r_eq; have z1 := hn1.size; have e2 := hn2.r_eq; have z2 := hn2.size
  have X2 := hn1.ext.trans hn2.ext
  refine ⟨_, _, _, (hn1.blk.ext hn2.ext).loadAt 0 rfl (by kernel_rfl) rfl, ?_⟩
  refine ⟨fun cp cn cc i wr => ∃ (j b : Nat), i = j /\ j <= n /\ cn = j /\ cp = some ⟨b, 0, none⟩ /\ Own wr w.heap.size T_string 1 cp cn cc (((l.take j).map acCur).map Value.string) /\ Ext w wr, fun _ _ _ i _ => n - i.toNat, ⟨0, r1, rfl, by omega, rfl, rfl, Own.of_blk0 hn2.blk (by omega) (by simp) (by decide), X2⟩, ?_⟩
  intro junk wr cp cn cc i ⟨j, b, hij, hj, hcn, hcp, ho, hx⟩
  subst hij; subst hcn
  have lx := hx.le
  refine ifD (fun hlt => ?_) (fun hge => ?_)
  · have hjl : cn < l.length := by omega
    obtain ⟨a, cs, hp, hk, hr, hl⟩ := (h.ext hx).at (P := P) (t := T_impl_Acct) (by kernel_rfl) (show cn < n by omega)
    subst hp
    have hrr := hr; have hcode := hc _ (List.getElem_mem hjl)
    obtain ⟨a0, a1, a2, a3p, a3n, a3c, a3z, rfl, hd, _⟩ := open_Acct hr hcode
    have hcur : acCur (l[cn]'hjl) = a1 := by rw [hd]; rfl
    refine ⟨⟨by omega, by omega⟩, _, _, _, _, _, _, by simpa using hl, ?_⟩
    intro r2 w3 hn3
    obtain ⟨w4, st, b4, y4⟩ := hn3.fill (P := P) (t := T_impl_Acct) hrr.cells1 (by kernel_rfl) rfl
    refine ⟨w4, st, _, b4.loadAt 1 rfl (by kernel_rfl) rfl, ?_⟩
    intro r3 w5 hn5
    have Y := y4.trans hn5.ext
    have lY := Y.le
    obtain ⟨p', c', w6, ha, ho6, ch, hp6⟩ := (ho.ext Y).push1 (P := P) sliceT_str1 (by omega) hn5.blk rfl (by simp [Value.oneCell']) (by omega) (by decide)
    obtain ⟨b', _, hp', _⟩ := ho6.blk (by omega)
    refine ⟨p', _, c', w6, ha, exW ⟨by omega, by omega⟩ ⟨⟨cn + 1, b', by omega, by omega, rfl, hp', ?_, (hx.trans Y).chg ch fun q hq => (World.ownsRow.lt ho q (by cases cp <;> simp_all [Value.ownBlock])).1⟩, ?_⟩⟩
    · rw [List.take_succ_eq_append_getElem hjl, List.map_append, List.map_append, List.map_cons, hcur]
      exact ho6
    · show n - ((cn : Int) + 1).toNat < n - (cn : Int).toNat
      omega
  · have hjn : cn = n := by omega
    subst hjn
    rw [List.take_of_length_le (by omega)] at ho
    subst hcp
    have hbB := (World.ownsRow.lt ho b rfl).1
    refine Ret.at (slices_Sort_c ho (by omega)) ?_
    rintro v w6 ⟨hv, ho6, ch⟩
    subst hv
    refine ⟨rfl, ?_⟩
    refine Ret.at (slices_Compact_c ho6 (by omega)) ?_
    rintro v w7 ⟨k, hv, ho7, ch7⟩
    subst hv
    rw [compB_sortB] at ho7
    refine ⟨_, _, _, rfl, _, _, _, _, rfl, strs_own ho7, strRows_code _, bookCurs_cnt (by omega), (hx.chg ch (by simp; omega)).chg ch7 (by simp; omega)⟩
end Go.Proofs.YtbgokfhcgcoipaaGreatDoor
namespace Go.Proofs.YtbgokfhcgcoipaaGreatDoor.Sx
open Go Go.RowKit Go.ChangeShapes Go.WideShapes
def rowedV (P : Program) (ns : List String) : Bool := ns.all fun n => ((P.globalNamed n).bind (P.globals[·]?)).all fun gl => P.readableRec gl.type && decide (gl.type < P.types.size)
section
variable {H : Type} {enc : TypeId × Value -> H} {P : Program}
theorem trodAll_ext (hl : laidOutB P = true) {W W' : World} (hb : Ext W W') (sp' : Nat -> Bool) : ∀ {ts : List TypeId} {vs : List Value} {ds : List (DataW H)} {ps : List MemPlace},
    (∀ t ∈ ts, P.readableRec t = true /\ t < P.types.size) -> (∀ p ∈ ps, p.block < W.heap.size) -> (∀ p ∈ ps, sp' p.block = true) ->
    DataW.TrodAll enc P W 0 (fun _ => true) true ts vs ds ps -> DataW.TrodAll enc P W' 0 sp' true ts vs ds ps
  | [], _, _, _, _, _, _, h => by
    obtain ⟨rfl, rfl, rfl⟩ := trodAll_nil h
    exact rfl
  | t :: ts, _, _, _, hr, hlt, hsp, h => by
    obtain ⟨v, vs1, d, ds1, a, b, rfl, rfl, rfl, h1, h2⟩ := trodAll_cons h
    have hrt := hr t (by simp)
    exact ⟨a, b, WideElems.Trod_stays hl hrt.1 hrt.2 h1 (fun x hx => Below.same hb (hlt x (by simp [hx]))) (fun x hx => hsp x (by simp [hx])),
      trodAll_ext hl hb sp' (fun u hu => hr u (by simp [hu])) (fun x hx => hlt x (by simp [hx])) (fun x hx => hsp x (by simp [hx])) h2, rfl⟩
theorem trodVars_sp (hl : laidOutB P = true) {W W' : World} (hb : Ext W W') (sp' : Nat -> Bool) :
    ∀ {ns : List String} {gs : List (DataW H)} {ps : List MemPlace}, rowedV P ns = true -> (∀ p ∈ ps, sp' p.block = true) -> DataW.TrodVars enc P W (fun _ => true) ns gs ps -> DataW.TrodVars enc P W' sp' ns gs ps
  | [], [], _, _, _, h => h
  | [], _ :: _, _, _, _, h => h.elim
  | _ :: _, [], _, _, _, h => h.elim
  | n :: ns, d :: ds, ps, hv, hsp, h => by
    have hlt := h.lt
    obtain ⟨g, t, cs, fuel, p, q, h1, h2, h3, h4, hs, e⟩ := h
    simp only [rowedV, List.all_cons, Bool.and_eq_true] at hv
    have ht : P.readableRec t = true /\ t < P.types.size := by
      have := hv.1
      rw [h1] at this
      cases hg : P.globals[g]? with
      | none => rw [hg] at h2; cases h2
      | some gl =>
        rw [hg] at h2
        obtain rfl : gl.type = t := Option.some.inj h2
        simpa [hg] using this
    have hp : ∀ x ∈ p, x.block < W.heap.size := fun x hx => hlt x (by rw [e]; simp [hx])
    have h3' : W'.var? P n = some cs := by
      unfold World.var? at h3 ⊢
      rw [h1] at h3 ⊢
      simp only [Option.bind_some] at h3 ⊢
      have hg : g < W.heap.size := by
        cases hh : W.heap[g]? with
        | none => rw [hh] at h3; cases h3
        | some o => exact (Array.getElem?_eq_some_iff.1 hh).1
      rw [hb.block g hg]; exact h3
    exact ⟨g, t, cs, fuel, p, q, h1, h2, h3', DataW.trod_stays (kids_book hl ht.1) (book_sized ht.1) (fun h => by cases h) ⟨ht.2, book_self t⟩ h4 (fun x hx => Below.same hb (hp x hx)) (fun x hx => hsp x (by rw [e]; simp [hx])),
      trodVars_sp hl hb sp' (by simpa [rowedV] using hv.2) (fun x hx => hsp x (by rw [e]; simp [hx])) hs, e⟩
theorem post_of_ext {f : Func} {s : ChangeSpec} {apart fresh handsOn again : Bool} {W W' : World} {args : Array Value} {ds gs : List (DataW H)} {before : List MemPlace} {tb : TypeId}
    (hl : laidOutB P = true) (hpar : ∀ t ∈ f.params.toList, P.readableRec t = true /\ t < P.types.size) (hvr : rowedV P s.vars = true)
    (hrt : f.resultTypes = #[tb]) (htb : P.underlying tb = some .bool)
    (hW : DataW.Whole enc P f.params.toList s.vars apart W args.toList ds gs before) (hx : Ext W W')
    (hfn : s.fn H (ds ++ gs) = { results := [.lit (.bool true)], args := ds, vars := gs }) :
    s.post enc P f apart fresh handsOn again W args (.bool true) W' := by
  have hW0 := hW
  have hlt : ∀ p ∈ before, p.block < W.heap.size := hW.lt
  obtain ⟨pa, pv, hA, hV, rfl, hz, hn⟩ := hW
  have hlta : ∀ p ∈ pa, p.block < W.heap.size := fun p hp => hlt p (by simp [hp])
  have hltv : ∀ p ∈ pv, p.block < W.heap.size := fun p hp => hlt p (by simp [hp])
  have hr : (Value.bool true).resultList f.resultTypes.size = [Value.bool true] := by rw [hrt]; rfl
  refine ⟨ds, gs, pa ++ pv, [], pa, pv, hW0, ?_, ?_, ?_, Below.frame hx _, fun _ => ?_⟩
  · rw [hfn, hr, hrt]
    exact trodAll_mk1 (shut_bool htb _)
  · rw [hfn]
    exact trodAll_ext hl hx _ hpar hlta (fun p hp => by simpa using hlta p hp) hA
  · rw [hfn]
    exact trodVars_sp hl hx _ hvr (fun p hp => by simpa using hltv p hp) hV
  · refine ⟨?_, (.lit (.bool true)) :: ds, gs, pa ++ pv, ⟨[] ++ pa, pv, ?_, ?_, by simp, ?_, ?_⟩, fun p hp _ => hp⟩
    · rw [hr, hrt]
      exact ok_one (f := { f with resultTypes := #[tb] }) rfl rfl (okWide_bool_mk htb _)
    · rw [hr, hrt]
      exact trodAll_append (trodAll_ext hl hx _ hpar hlta (fun _ _ => rfl) hA) (trodAll_mk1 (shut_bool htb _))
    · exact trodVars_sp hl hx _ hvr (fun _ _ => rfl) hV
    · intro b off hp
      have := hlt _ hp
      rw [Below.frozen hx (p := ⟨b, off, none⟩) this]
      exact hz b off hp
    · exact hn
end
end Go.Proofs.YtbgokfhcgcoipaaGreatDoor.Sx
namespace Go.Proofs.YtbgokfhcgcoipaaGreatDoor.Sx
open Go Go.RowKit Go.ChangeShapes Go.WideShapes
section
variable {H : Type} {enc : TypeId × Value -> H} {P : Program} {w : World}
theorem spot_none {a : Addr} {v : Value} (h : w.cell? a = some v) : a = ⟨a.block, a.off, none⟩ := by
  obtain ⟨b, o, spot⟩ := a
  have : spot = none := by simpa using World.cell?_spot h
  subst this; rfl
end
end Go.Proofs.YtbgokfhcgcoipaaGreatDoor.Sx
namespace Go.Proofs.YtbgokfhcgcoipaaGreatDoor
open Go Go.RowKit Go.ChangeShapes Go.Proofs.YtbgokfhcgcoipaaGreatDoor.Sx
theorem bytes_of_trod {H : Type} {enc : TypeId × Value -> H} {P : Program} {w : World} {t e : TypeId} {fuel : Nat} {sp : Nat -> Bool} {hd : Bool} {cs : List Value} {x : DataW H × List MemPlace} (ht : P.underlying t = some (.slice e)) (he : P.underlying e = some (.int .u8)) (hc : P.cellsOf e = 1)
    (h : DataW.trod enc P w 0 sp hd fuel t cs = some x) : ∃ p n c, cs = [.slice p n c] /\ ByR w p n := by
  rcases Go.ChangeShapes.open_ints ht he hc h with ⟨rfl, _⟩ | ⟨a, len, cap, zs, rfl, _, hl, hm, hz, _, hcell, _⟩
  · exact ⟨none, 0, 0, rfl, fun h => absurd h (by omega)⟩
  · have hlz : len <= zs.length := by rw [hz]; split <;> omega
    refine ⟨some a, len, cap, rfl, fun hpos => ?_⟩
    have h0 := hcell 0 (by omega)
    have hs := spot_none h0
    have ha : a = ⟨a.block, a.off, none⟩ := by
      obtain ⟨b, o, s⟩ := a
      simp [Addr.add] at hs
      simp [hs]
    have hlt := World.block_lt_of_cell? w _ h0
    refine ⟨a.block, a.off, zs.take len, by rw [<- ha], by simp; omega, fun j v hj => ?_, by simpa [Addr.add] using hlt⟩
    simp only [List.getElem?_map, List.getElem?_take] at hj
    split at hj
    · rename_i hjl
      have hjz : j < zs.length := by omega
      have := hcell j hjz
      rw [ha, addr_add] at this
      rw [this]
      rw [List.getElem?_eq_getElem hjz] at hj
      simp at hj
      rw [<- hj]
      simp [hjz]
    · simp at hj
end Go.Proofs.YtbgokfhcgcoipaaGreatDoor
namespace Go.Proofs.YtbgokfhcgcoipaaGreatDoor
variable {w : World} {R : Value -> World -> Prop}
open Go Go.Proofs.YtbgokfhcgcoipaaGreatDoor.Sx
set_option maxRecDepth 100000
def laws_FnBook_s_j5 (r a0 : Nat) (a1 : World) (R : Value -> World -> Prop) : Prop :=
 ∃ a2 a3 a4, Loads P 87 ((⟨r, 0, none⟩ : Addr).add 0) (.slice a2 a3 a4) a1 /\ ∃ (a5 : Int -> World -> Prop) (mu : Int -> World -> Nat), a5 0 a1 /\
 ∀ (a6 : Fr) (a7 : World) (a8 : Int), a5 a8 a7 ->
 ((decide ((a8 : Int) < ((a3 : Nat) : Int))) = true ->
 (0 <= (a8 : Int) /\ (a8 : Int) < (a3 : Nat)) /\ ptrS a2 fun ad => ∃ a9 aa ab ac ae af, Loads P 97 (ad.add (a8.toNat * 4)) (.agg #[.string a9, .string aa, .bool ab, .slice ac ae af]) a7 /\ ∀ ag ah, New a7 (.cells ⟨[.string ByteArray.empty, .string ByteArray.empty, .bool false, .slice none 0 0]⟩ 97 (0, 0)) ag ah ->
 ∃ wv_21, Stores P 97 ⟨ag, 0, none⟩ (.agg #[.string a9, .string aa, .bool ab, .slice ac ae af]) ah wv_21 /\
 ∃ ai aj ak, Loads P 89 ⟨a0, 0, none⟩ (.agg #[.slice ai aj ak]) wv_21 /\ ∃ al, Loads P 9 ((⟨ag, 0, none⟩ : Addr).add 0) (.string al) wv_21 /\ Calls P 52 ⟨[.agg #[.slice ai aj ak], .string al]⟩ wv_21 fun am an =>
 ∃ ao ap aq ar au av, am = .returned (.tuple #[.agg #[.string ao, .bool ap, .slice aq ar au], .bool av]) /\
 ∀ aw ax, New an (.cells ⟨[.string ByteArray.empty, .bool false, .slice none 0 0]⟩ 33 (0, 0)) aw ax ->
 ∃ wv_24, Stores P 33 ⟨aw, 0, none⟩ (.agg #[.string ao, .bool ap, .slice aq ar au]) ax wv_24 /\
 ∃ ay az b0 b1 b2, Loads P 33 ⟨aw, 0, none⟩ (.agg #[.string ay, .bool az, .slice b0 b1 b2]) wv_24 /\ ∃ b3 b4 b5 b6 b7, Loads P 33 ((⟨ag, 0, none⟩ : Addr).add 1) (.agg #[.string b3, .bool b4, .slice b5 b6 b7]) wv_24 /\ Calls P 24 ⟨[.agg #[.string ay, .bool az, .slice b0 b1 b2], .agg #[.string b3, .bool b4, .slice b5 b6 b7]]⟩ wv_24 fun b8 b9 =>
 ∃ ba, b8 = .returned (.bool ba) /\
 ((!ba) = true ->
 R (.bool false) b9) /\
 ((!ba) = false ->
 ∃ bb : Int, bb = IntKind.wrap .i64 (a8 + 1) /\ a5 bb b9 /\ mu bb b9 < mu a8 a7)) /\
 ((decide ((a8 : Int) < ((a3 : Nat) : Int))) = false ->
 ∃ bc bd be, Loads P 89 ⟨r, 0, none⟩ (.agg #[.slice bc bd be]) a7 /\ Calls P 55 ⟨[.agg #[.slice bc bd be]]⟩ a7 fun bf bg =>
 ∃ bh bi bj, bf = .returned (.slice bh bi bj) /\
 ∃ (bk : Int -> World -> Prop) (bl : Int -> World -> Nat), bk 0 bg /\
 ∀ (bm : Fr) (bn : World) (bo : Int), bk bo bn ->
 ((decide ((bo : Int) < ((bi : Nat) : Int))) = true ->
 (0 <= (bo : Int) /\ (bo : Int) < (bi : Nat)) /\ ptrS bh fun bp => ∃ bq, Loads P 9 (bp.add (bo.toNat * 1)) (.string bq) bn /\ ∃ br bs bt, (∀ wv_28, Ext bn.drew wv_28 -> Loads P 89 ⟨r, 0, none⟩ (.agg #[.slice br bs bt]) wv_28) /\ Calls P 57 ⟨[.agg #[.slice br bs bt], .string bq]⟩ bn.drew fun bu bv =>
 ∃ bw bx bz c0, bu = .returned (.agg #[.bool bw, .slice bx bz c0]) /\
 Ext bn.drew bv /\ ∃ c1 c2 c3, (∀ wv_30, Ext bn.drew wv_30 -> Loads P 89 ⟨a0, 0, none⟩ (.agg #[.slice c1 c2 c3]) wv_30) /\ Calls P 57 ⟨[.agg #[.slice c1 c2 c3], .string bq]⟩ bv fun c4 c5 =>
 ∃ c6 c7 c8 c9, c4 = .returned (.agg #[.bool c6, .slice c7 c8 c9]) /\
 Calls P 56 ⟨[.agg #[.bool bw, .slice bx bz c0], .agg #[.bool c6, .slice c7 c8 c9]]⟩ c5 fun ca cb =>
 ∃ cc, ca = .returned (.int .i64 cc) /\
 ((decide ((cc : Int) ≠ 0)) = true ->
 R (.bool false) cb) /\
 ((decide ((cc : Int) ≠ 0)) = false ->
 ∃ cd : Int, cd = IntKind.wrap .i64 (bo + 1) /\ bk cd cb /\ bl cd cb < bl bo bn)) /\
 ((decide ((bo : Int) < ((bi : Nat) : Int))) = false ->
 ∃ ce cf cg, (∀ wv_33, Ext bn.drew wv_33 -> Loads P 89 ⟨a0, 0, none⟩ (.agg #[.slice ce cf cg]) wv_33) /\ Calls P 58 ⟨[.agg #[.slice ce cf cg]]⟩ bn.drew fun ch ci =>
 ∃ cj, ch = .returned (.bool cj) /\
 (cj = true ->
 ∃ ck cl cm, (∀ wv_35, Ext ci wv_35 -> Loads P 89 ⟨a0, 0, none⟩ (.agg #[.slice ck cl cm]) wv_35) /\ Calls P 60 ⟨[.agg #[.slice ck cl cm]]⟩ ci fun cn co =>
 ∃ cp, cn = .returned (.string cp) /\
 Ext ci co /\ Calls P 59 ⟨[.string cp]⟩ co fun cq cr =>
 ∃ cs ct cu, cq = .returned (.slice cs ct cu) /\
 Ext co cr /\ ∃ cv cw cx, (∀ wv_38, Ext ci wv_38 -> Loads P 87 ((⟨r, 0, none⟩ : Addr).add 0) (.slice cv cw cx) wv_38) /\ ∃ cy : Int, cy = IntKind.wrap .i64 (((cw : Nat) : Int) + 1) /\ R (.bool (decide ((((ct : Nat) : Int) : Int) = cy))) cr) /\
 (cj = false ->
 R (.bool false) ci)))
def laws_FnBook_s_j4 (r a0 : Nat) (a1 : Bool) (a2 : World) (R : Value -> World -> Prop) : Prop :=
 (a1 = true ->
 (true = true ->
 R (.bool false) a2) /\
 (true = false ->
 laws_FnBook_s_j5 r a0 a2 R)) /\
 (a1 = false ->
 ∃ a3 a4 a5, Loads P 89 ⟨r, 0, none⟩ (.agg #[.slice a3 a4 a5]) a2 /\ Calls P 54 ⟨[.agg #[.slice a3 a4 a5], (.string (S [122, 101, 100]))]⟩ a2 fun a6 a7 =>
 ∃ a8, a6 = .returned (.int .i64 a8) /\
 ((decide ((0 : Int) <= a8)) = true ->
 R (.bool false) a7) /\
 ((decide ((0 : Int) <= a8)) = false ->
 laws_FnBook_s_j5 r a0 a7 R))
def laws_FnBook_s_j3 (r a0 : Nat) (a1 a2 : Nat) (a3 : Bool) (a4 : World) (R : Value -> World -> Prop) : Prop :=
 (a3 = true ->
 laws_FnBook_s_j4 r a1 true a4 R) /\
 (a3 = false ->
 ∃ a5 a6 a7 a8 a9, Loads P 33 ⟨a2, 0, none⟩ (.agg #[.string a5, .bool a6, .slice a7 a8 a9]) a4 /\ ∃ aa ab ac ae af, Loads P 33 ⟨a0, 0, none⟩ (.agg #[.string aa, .bool ab, .slice ac ae af]) a4 /\ Calls P 24 ⟨[.agg #[.string a5, .bool a6, .slice a7 a8 a9], .agg #[.string aa, .bool ab, .slice ac ae af]]⟩ a4 fun ag ah =>
 ∃ ai, ag = .returned (.bool ai) /\
 laws_FnBook_s_j4 r a1 (!ai) ah R)
def laws_FnBook_s_j2 (r a0 a1 : Nat) (a2 : Bool) (a3 : Nat) (a4 : Bool) (a5 : World) (R : Value -> World -> Prop) : Prop :=
 (a4 = true ->
 laws_FnBook_s_j3 r a0 a1 a3 true a5 R) /\
 (a4 = false ->
 laws_FnBook_s_j3 r a0 a1 a3 (!a2) a5 R)
def laws_FnBook_s_j1 (r a0 : Nat) (a1 : Bool) (a2 : Nat) (a3 : Bool) (a4 : Nat) (a5 : Bool) (a6 : World) (R : Value -> World -> Prop) : Prop :=
 (a5 = true ->
 laws_FnBook_s_j2 r a0 a2 a3 a4 true a6 R) /\
 (a5 = false ->
 laws_FnBook_s_j2 r a0 a2 a3 a4 (!a1) a6 R)
def laws_FnBook_s_j0 (r a0 a1 : Nat) (a2 : Bool) (a3 : Nat) (a4 : Bool) (a5 : Nat) (a6 : Bool) (W : World) (R : Value -> World -> Prop) : Prop :=
 (a6 = true ->
 laws_FnBook_s_j1 r a1 a2 a3 a4 a5 true W R) /\
 (a6 = false ->
 ∃ a7 a8 a9 aa, Loads P 31 ((⟨a0, 0, none⟩ : Addr).add 1) (.agg #[.bool a7, .slice a8 a9 aa]) W /\ Calls P 25 ⟨[.agg #[.bool a7, .slice a8 a9 aa]]⟩ W fun ab ac =>
 ∃ ae, ab = .returned (.int .i64 ae) /\
 laws_FnBook_s_j1 r a1 a2 a3 a4 a5 ((decide ((ae : Int) ≠ 0))) ac R)
def laws_FnBook_s (a0 : Option Addr) (a1 a2 : Nat) (w : World) (R : Value -> World -> Prop) : Prop :=
 ((decide ((1048576 : Int) < ((a1 : Nat) : Int))) = true ->
 R (.bool true) w) /\
 ((decide ((1048576 : Int) < ((a1 : Nat) : Int))) = false ->
 Calls P 50 ⟨[.slice a0 a1 a2]⟩ w fun e wv =>
 ∃ a3 a4 a5, e = .returned (.agg #[.slice a3 a4 a5]) /\
 ∀ r a6, New wv (.cells ⟨[.slice none 0 0]⟩ 89 (0, 0)) r a6 ->
 ∃ wv_2, Stores P 89 ⟨r, 0, none⟩ (.agg #[.slice a3 a4 a5]) a6 wv_2 /\
 ∃ a7 a8 a9, Loads P 89 ⟨r, 0, none⟩ (.agg #[.slice a7 a8 a9]) wv_2 /\ Calls P 51 ⟨[.agg #[.slice a7 a8 a9], (.string (S [122, 101, 100])), (.string (S [78, 79, 75]))]⟩ wv_2 fun aa ab =>
 ∃ ac ae af ag, aa = .returned (.tuple #[.agg #[.slice ac ae af], .bool ag]) /\
 ∀ ah ai, New ab (.cells ⟨[.slice none 0 0]⟩ 89 (0, 0)) ah ai ->
 ∃ wv_5, Stores P 89 ⟨ah, 0, none⟩ (.agg #[.slice ac ae af]) ai wv_5 /\
 ∃ aj ak al, Loads P 89 ⟨ah, 0, none⟩ (.agg #[.slice aj ak al]) wv_5 /\ Calls P 52 ⟨[.agg #[.slice aj ak al], (.string (S [122, 101, 100]))]⟩ wv_5 fun am an =>
 ∃ ao ap aq ar au av, am = .returned (.tuple #[.agg #[.string ao, .bool ap, .slice aq ar au], .bool av]) /\
 ∀ aw ax, New an (.cells ⟨[.string ByteArray.empty, .bool false, .slice none 0 0]⟩ 33 (0, 0)) aw ax ->
 ∃ wv_8, Stores P 33 ⟨aw, 0, none⟩ (.agg #[.string ao, .bool ap, .slice aq ar au]) ax wv_8 /\
 Calls P 17 ⟨[.slice a0 a1 a2, .int .i64 90]⟩ wv_8 fun ay az =>
 ∃ b0, ay = .returned (.int .i64 b0) /\
 ∃ b1 : Int, b1 = IntKind.wrap .i64 (5 + b0) /\ Calls P 16 ⟨[(.string (S [78, 79, 75])), .int .i64 b1]⟩ az fun b2 b3 =>
 ∃ b4 b5 b6 b7 b8 b9, b2 = .returned (.tuple #[.agg #[.string b4, .bool b5, .slice b6 b7 b8], .bool b9]) /\
 ∀ ba bb, New b3 (.cells ⟨[.string ByteArray.empty, .bool false, .slice none 0 0]⟩ 33 (0, 0)) ba bb ->
 ∃ wv_12, Stores P 33 ⟨ba, 0, none⟩ (.agg #[.string b4, .bool b5, .slice b6 b7 b8]) bb wv_12 /\
 ∃ bc bd be, Loads P 89 ⟨ah, 0, none⟩ (.agg #[.slice bc bd be]) wv_12 /\ ∃ bf bg bh bi bj, Loads P 33 ⟨ba, 0, none⟩ (.agg #[.string bf, .bool bg, .slice bh bi bj]) wv_12 /\ Calls P 53 ⟨[.agg #[.slice bc bd be], (.string (S [122, 101, 100])), .agg #[.string bf, .bool bg, .slice bh bi bj]]⟩ wv_12 fun bk bl =>
 ∃ bm bn bo bp, bk = .returned (.tuple #[.agg #[.slice bm bn bo], .bool bp]) /\
 ∀ bq br, New bl (.cells ⟨[.slice none 0 0]⟩ 89 (0, 0)) bq br ->
 ∃ wv_15, Stores P 89 ⟨bq, 0, none⟩ (.agg #[.slice bm bn bo]) br wv_15 /\
 ∃ bs bt bu, Loads P 89 ⟨bq, 0, none⟩ (.agg #[.slice bs bt bu]) wv_15 /\ Calls P 52 ⟨[.agg #[.slice bs bt bu], (.string (S [122, 101, 100]))]⟩ wv_15 fun bv bw =>
 ∃ bx bz c0 c1 c2 c3, bv = .returned (.tuple #[.agg #[.string bx, .bool bz, .slice c0 c1 c2], .bool c3]) /\
 ∀ c4 c5, New bw (.cells ⟨[.string ByteArray.empty, .bool false, .slice none 0 0]⟩ 33 (0, 0)) c4 c5 ->
 ∃ wv_18, Stores P 33 ⟨c4, 0, none⟩ (.agg #[.string bx, .bool bz, .slice c0 c1 c2]) c5 wv_18 /\
 ((!ag) = true ->
 laws_FnBook_s_j0 r aw ba bp bq c3 c4 true wv_18 R) /\
 ((!ag) = false ->
 laws_FnBook_s_j0 r aw ba bp bq c3 c4 (!av) wv_18 R))
theorem laws_FnBook_s_ret {a : Option Addr} {a0 a1 : Nat} (h : laws_FnBook_s a a0 a1 w R) : Ret P 7 [.slice a a0 a1] w R := Ret.of_fsem Tryz.func7 rfl (Eq.mp (show _ = fsem P Tryz.f7 (fun k => cond (Nat.beq k 13) [(87, .one (.int .i64))] (cond (Nat.beq k 20) [(107, .one (.int .i64))] ([]))) _ R w from by kernel_rfl) h)
end Go.Proofs.YtbgokfhcgcoipaaGreatDoor
