/-
  Parts of the proof of fnTaxIn_holds: CTaxInL, CDraw, CMake, CRateL, LY, CTextN, CDigL, CDecLowO, CDecT, CCutL, CTextNat, CTextDec, CCutI, CJoin, LZ, CCutAt, CTextDecI, CPercent, CTextPcL, CTextPercent, CFnTaxInL, CCurD, CPlanP, CPlan, CPlanL, SxFlS, SxEx, GM, CMoneysD, CKeep, CLawR, CSame, CMoneyOf, SxRow, SxOpen, CByR, GT.
  Conditions: none.
-/
import Derived.Shelf.Strings.Repeat
import Derived.Shelf.Strings.BuilderX
import Derived.Shelf.Strings.OnBuilder
import Derived.Shelf.Strconv.Itoa3
import Derived.Lib.SmallJoins
import Derived.Lib.AppendIntMem
import Derived.Lib.ConvBytes
import Derived.Shelf.Small.Strs
import Derived.ProofKit
import Derived.Deep.Slices
import Derived.Test.YtbgokfhcgcoipaaGreatDoorTi4
set_option linter.unusedVariables false
set_option linter.unusedSimpArgs false
namespace Go.ChangeShapes
end Go.ChangeShapes
namespace Go.Conc
end Go.Conc
namespace Go.RowKit
end Go.RowKit
namespace Go.Shelf
end Go.Shelf
namespace Go.WideShapes
end Go.WideShapes

namespace Go.Proofs.YtbgokfhcgcoipaaGreatDoor
open Go Go.Proofs.YtbgokfhcgcoipaaGreatDoor.Sx
theorem rround_near {n : Int} {d : Nat} (m : Int) (hd : 0 < d) : (n - rround n d m * d).natAbs < d := by
  have e := Nat.div_add_mod n.natAbs d
  have l := Nat.mod_lt n.natAbs hd
  have hc : d * (n.natAbs / d) = n.natAbs / d * d := Nat.mul_comm _ _
  have key : (n.natAbs % d = 0 -> roundM n d m = n.natAbs / d) /\ (roundM n d m = n.natAbs / d ∨ roundM n d m = n.natAbs / d + 1) := by
    unfold roundM
    refine ⟨fun h => if_neg fun h2 => h2.1 h, ?_⟩
    split
    · exact .inr rfl
    · exact .inl rfl
  have fin : ∃ r : Int, n.natAbs = (roundM n d m * d : Nat) + r /\ r.natAbs < d := by
    by_cases h0 : n.natAbs % d = 0
    · rw [key.1 h0]; exact ⟨0, by omega, by simpa using hd⟩
    · rcases key.2 with h | h <;> rw [h]
      · exact ⟨((n.natAbs % d : Nat) : Int), by omega, by omega⟩
      · rw [Nat.succ_mul]
        exact ⟨((n.natAbs % d : Nat) : Int) - d, by omega, by omega⟩
  obtain ⟨r, h1, h2⟩ := fin
  rw [Int.natCast_mul] at h1
  unfold rround
  split
  · rw [Int.neg_mul]; omega
  · omega
theorem ex_val (u : Int) (m t : Nat) : exN u m t * (10 ^ t : Nat) = u * m * exD u m t /\ 0 < exD u m t := by
  have h10 : 0 < 10 ^ t := Nat.pos_of_ne_zero (by simp)
  obtain ⟨g, hg, e1, e2⟩ := red_parts (m : Int) h10
  have hB := redD_pos (n := (m : Int)) h10
  unfold exN exD
  generalize redN (m : Int) (10 ^ t) = A at *
  generalize redD (m : Int) (10 ^ t) = B at *
  have hB1 : 0 < 1 * B := by omega
  obtain ⟨h, hh, e3, e4⟩ := red_parts (u * A) hB1
  have hY := redD_pos (n := u * A) hB1
  generalize redN (u * A) (1 * B) = X at *
  generalize redD (u * A) (1 * B) = Y at *
  refine ⟨?_, hY⟩
  rw [e2, e1]
  have e4' : (B : Int) = (Y : Int) * (h : Int) := by rw [<- Int.natCast_mul, <- e4]; omega
  calc X * ((B * g : Nat) : Int) = X * ((Y : Int) * h * g) := by rw [Int.natCast_mul, e4']
    _ = X * h * (g * Y) := by rw [Int.mul_assoc X, Int.mul_comm (Y : Int) (h : Int), Int.mul_assoc, Int.mul_comm (Y : Int) (g : Int)]
    _ = u * A * (g * Y) := by rw [<- e3]
    _ = u * (A * g) * Y := by rw [Int.mul_assoc, Int.mul_assoc, Int.mul_assoc]
theorem in_val (u : Int) (m t : Nat) : inN u m t * ((10 ^ t + m : Nat) : Int) = u * (10 ^ t : Nat) * inD u m t /\ 0 < inD u m t /\ (inN u m t).natAbs <= u.natAbs * 10 ^ t /\ inD u m t <= 10 ^ t + m := by
  have h10 : 0 < 10 ^ t := Nat.pos_of_ne_zero (by simp)
  obtain ⟨g, hg, e1, e2⟩ := red_parts (m : Int) h10
  have hB := redD_pos (n := (m : Int)) h10
  have hA : 0 <= redN (m : Int) (10 ^ t) := redN_nn (by omega)
  have hs : 10 ^ t + m = (10 ^ t + m) := rfl
  unfold inN inD inE inK
  generalize redN (m : Int) (10 ^ t) = A at *
  generalize redD (m : Int) (10 ^ t) = B at *
  rw [show (1 * (B : Int) + A * ((1 : Nat) : Int)) = (B : Int) + A by rw [Int.one_mul]; show _ + A * 1 = _; rw [Int.mul_one]]
  have hB1 : 0 < 1 * B := by omega
  obtain ⟨h, hh, e3, e4⟩ := red_parts ((B : Int) + A) hB1
  have hE := redD_pos (n := (B : Int) + A) hB1
  have hK0 : 0 <= redN ((B : Int) + A) (1 * B) := redN_nn (by omega)
  generalize redN ((B : Int) + A) (1 * B) = K at *
  generalize redD ((B : Int) + A) (1 * B) = E at *
  have hK : 0 < K.natAbs := by
    rcases Int.lt_or_eq_of_le hK0 with h1 | h1
    · omega
    · rw [<- h1, Int.zero_mul] at e3; omega
  have hK1 : 0 < 1 * K.natAbs := by omega
  obtain ⟨k, hk, e5, e6⟩ := red_parts (u * (E : Int)) hK1
  have hY := redD_pos (n := u * (E : Int)) hK1
  generalize redN (u * (E : Int)) (1 * K.natAbs) = X at *
  generalize redD (u * (E : Int)) (1 * K.natAbs) = Y at *
  have e6' : K = (Y : Int) * (k : Int) := by rw [<- Int.natCast_mul, <- e6]; omega
  have e4' : (B : Int) = (E : Int) * (h : Int) := by rw [<- Int.natCast_mul, <- e4]; omega
  have ec : ((10 ^ t : Nat) : Int) = (E : Int) * h * g := by rw [e2, Int.natCast_mul, e4']
  have es : ((10 ^ t + m : Nat) : Int) = K * h * g := by rw [Int.natCast_add, e2, e1, Int.natCast_mul, <- Int.add_mul, e3]
  refine ⟨?_, hY, ?_, ?_⟩
  · rw [es, ec, e6']
    calc X * ((Y : Int) * k * h * g) = X * k * (h * g) * Y := by
          rw [Int.mul_assoc (Y : Int) k, Int.mul_assoc (Y : Int), Int.mul_comm (Y : Int), <- Int.mul_assoc X, <- Int.mul_assoc X, <- Int.mul_assoc X, Int.mul_assoc (X * k)]
      _ = u * E * (h * g) * Y := by rw [<- e5]
      _ = u * ((E : Int) * h * g) * Y := by rw [Int.mul_assoc u, Int.mul_assoc (E : Int)]
  · have h1 : X.natAbs <= (u * (E : Int)).natAbs := by rw [e5, Int.natAbs_mul, Int.natAbs_natCast]; exact Nat.le_mul_of_pos_right _ hk
    rw [Int.natAbs_mul, Int.natAbs_natCast] at h1
    refine Nat.le_trans h1 (Nat.mul_le_mul_left _ ?_)
    have h2 : E <= 1 * B := by rw [e4]; exact Nat.le_mul_of_pos_right _ hh
    have h3 : B <= 10 ^ t := by rw [e2]; exact Nat.le_mul_of_pos_right _ hg
    omega
  · have h1 : Y <= 1 * K.natAbs := by rw [e6]; exact Nat.le_mul_of_pos_right _ hk
    have h2 : K.natAbs <= ((10 ^ t + m : Nat) : Int).natAbs := by
      rw [es, Int.natAbs_mul, Int.natAbs_mul, Int.natAbs_natCast, Int.natAbs_natCast, Nat.mul_assoc]
      exact Nat.le_mul_of_pos_right _ (Nat.mul_pos hh hg)
    rw [Int.natAbs_natCast] at h2
    omega
end Go.Proofs.YtbgokfhcgcoipaaGreatDoor
namespace Go.Proofs.YtbgokfhcgcoipaaGreatDoor
open Go Go.Proofs.YtbgokfhcgcoipaaGreatDoor.Sx
def ByR (W : World) (p : Option Addr) (n : Nat) : Prop := 0 < n -> ∃ (b o : Nat) (zs : List Int), p = some ⟨b, o, none⟩ /\ zs.length = n /\ Seg W b o (zs.map (Value.int .u8)) /\ b < W.heap.size
theorem ByR.ext {W W' : World} {p : Option Addr} {n : Nat} (h : ByR W p n) (he : Ext W W') : ByR W' p n := fun hn => by
  obtain ⟨b, o, zs, h1, h2, h3, h4⟩ := h hn
  exact ⟨b, o, zs, h1, h2, h3.ext he, Nat.lt_of_lt_of_le h4 he.le⟩
theorem ByR.chg {W W' : World} {p : Option Addr} {n r : Nat} (h : ByR W p n) (he : Chg [r] W W') (hr : 0 < n -> ∀ q, p.map (·.block) = some q -> q ≠ r) : ByR W' p n := fun hn => by
  obtain ⟨b, o, zs, rfl, h2, h3, h4⟩ := h hn
  exact ⟨b, o, zs, rfl, h2, h3.chg he (fun hm => hr hn b rfl (List.mem_singleton.1 hm)), Nat.lt_of_lt_of_le h4 he.size⟩
theorem ByR.at {W : World} {p : Option Addr} {n : Nat} (h : ByR W p n) {i : Int} (h0 : 0 <= i) (h1 : i < n) : ∃ a z, p = some a /\ Loads P T_uint8 (a.add (i.toNat * 1)) (.int .u8 z) W := by
  obtain ⟨b, o, zs, rfl, h2, h3, h4⟩ := h (by omega)
  have hk : i.toNat < zs.length := by omega
  refine ⟨⟨b, o, none⟩, zs[i.toNat], rfl, h3.load (by kernel_rfl) ?_⟩
  rw [Nat.mul_one, List.getElem?_map, List.getElem?_eq_getElem hk]; rfl
def Cur (W : World) (r : Nat) (p : Option Addr) (n c : Nat) : Prop := ∃ (e : TypeId) (i h : Int), 0 <= i /\ Blk W r e [.slice p n c, .int .i64 i, .int .i64 h]
theorem Cur.ext {W W' : World} {r n c : Nat} {p : Option Addr} (h : Cur W r p n c) (he : Ext W W') : Cur W' r p n c := by
  obtain ⟨e, i, x, h1, h2⟩ := h; exact ⟨e, i, x, h1, h2.ext he⟩
theorem Cur.lt {W : World} {r n c : Nat} {p : Option Addr} (h : Cur W r p n c) : r < W.heap.size := by
  obtain ⟨e, i, x, h1, h2⟩ := h; exact h2.lt
theorem and255 (x : Int) : ∃ z : Int, z = IntKind.wrap .i64 (((BitVec.ofInt (IntKind.bits .i64) x &&& BitVec.ofInt (IntKind.bits .i64) 255).toNat : Nat) : Int) /\ 0 <= z /\ z <= 255 := by
  have h : (BitVec.ofInt (IntKind.bits .i64) x &&& BitVec.ofInt (IntKind.bits .i64) 255).toNat <= 255 := by
    rw [BitVec.toNat_and]
    exact Nat.le_trans Nat.and_le_right (by decide)
  exact ⟨_, rfl, by rw [wrap64 (by omega) (by omega)]; omega, by rw [wrap64 (by omega) (by omega)]; omega⟩
theorem spec_l01New_c {w : World} {p : Option Addr} {n c : Nat} (h : ByR w p n) (hn : n <= 1048576) : Ret P n_spec_l01New [.slice p n c] w fun v w' => ∃ r, v = .pointer (some ⟨r, 0, none⟩) /\ w.heap.size <= r /\ Cur w' r p n c /\ Ext w w' := by
  refine spec_l01New_ret ?_
  unfold spec_l01New
  refine ⟨_, rfl, fun _ i W => ∃ k : Nat, i = k /\ W = w, fun _ i _ => n - i.toNat, ⟨0, rfl, rfl⟩, ?_⟩
  rintro junk W hh i ⟨k, rfl, rfl⟩
  have fin : ∀ (r : Nat) (w1 : World), New W (.cells ⟨[.slice p n c, .int .i64 0, .int .i64 hh]⟩ T_spec_l01Cur (0, 0)) r w1 -> ∃ r', Value.pointer (some ⟨r, 0, none⟩) = .pointer (some ⟨r', 0, none⟩) /\ W.heap.size <= r' /\ Cur w1 r' p n c /\ Ext W w1 := fun r w1 hn1 =>
    ⟨r, rfl, by have := hn1.r_eq; omega, ⟨_, 0, hh, by omega, hn1.blk⟩, hn1.ext⟩
  refine ifD (fun hlt => ifD (fun h4 => ?_) (fun _ => fin)) (fun hge => ifF fin)
  unfold spec_l01New_j0
  obtain ⟨a, z, rfl, hl⟩ := h.at (i := (k : Int)) (by omega) hlt
  refine ⟨_, rfl, ⟨by omega, hlt⟩, _, hl, _, rfl, _, rfl, _, rfl, _, rfl, exW ⟨by omega, by omega⟩ ⟨⟨k + 1, by omega, rfl⟩, ?_⟩⟩
  show n - ((k : Int) + 1).toNat < n - (k : Int).toNat
  omega
theorem spec_l01Byte_c {w : World} {r n c : Nat} {p : Option Addr} (hc : Cur w r p n c) (hb : ByR w p n) (hne : 0 < n -> ∀ q, p.map (·.block) = some q -> q ≠ r) (hn : n <= 1048576) :
    Ret P n_spec_l01Byte [.pointer (some ⟨r, 0, none⟩)] w fun v w' => ∃ z : Int, v = .int .i64 z /\ 0 <= z /\ z <= 255 /\ Cur w' r p n c /\ Chg [r] w w' := by
  obtain ⟨e, i, hh, hi, hblk⟩ := hc
  refine spec_l01Byte_ret ?_
  unfold spec_l01Byte
  refine ⟨_, hblk.load (by kernel_rfl) rfl, _, rfl, _, rfl, ?_⟩
  obtain ⟨w1, st1, hb1, ch1, _⟩ := hblk.store (P := P) (t := T_int) (k := 2) (v := .int .i64 (IntKind.wrap .i64 (IntKind.wrap .i64 (hh * 6364136223846793005) + 1442695040888963407))) (by kernel_rfl) (by simp) rfl
  have D1 := Ext.drew w1
  have D2 := D1.trans (Ext.drew w1.drew)
  have D3 := D2.trans (Ext.drew w1.drew.drew)
  have hb2 := hb1.ext D2; have hb3 := hb1.ext D3
  have hby := (hb.chg ch1 hne).ext D3
  refine ⟨w1, st1, _, fun W hW => ((hb1.ext D1).ext hW).load (by kernel_rfl) rfl, by decide, _, rfl, _, fun W hW => ((hb1.ext D1).ext hW).load (by kernel_rfl) rfl, by decide, _, rfl, _, rfl, ?_⟩
  obtain ⟨z1, hz1, z10, z11⟩ := and255 (IntKind.wrap .i64 (((BitVec.ofInt (IntKind.bits .i64) (Int.fdiv (IntKind.wrap .i64 (IntKind.wrap .i64 (hh * 6364136223846793005) + 1442695040888963407)) (2 ^ (min (33 : Int).toNat (IntKind.bits .i64)))) ^^^ BitVec.ofInt (IntKind.bits .i64) (Int.fdiv (IntKind.wrap .i64 (IntKind.wrap .i64 (hh * 6364136223846793005) + 1442695040888963407)) (2 ^ (min (45 : Int).toNat (IntKind.bits .i64))))).toNat : Nat) : Int))
  refine ⟨z1, hz1, _, fun W hW => (hb2.ext hW).load (by kernel_rfl) rfl, _, _, _, fun W hW => (hb2.ext hW).load (by kernel_rfl) rfl, ifD (fun hlt => ?_) (fun hge => ?_)⟩
  · obtain ⟨a, z, hpa, _⟩ := hby.at hi hlt
    obtain ⟨b, o, zs, hpe, hzl, hseg, hblt⟩ := hby (by omega)
    have hpo : p = some ⟨b, o, none⟩ := hpe
    subst hpo
    have hk : i.toNat < zs.length := by omega
    refine ⟨_, _, _, fun W hW => (hb3.ext hW).load (by kernel_rfl) rfl, _, fun W hW => (hb3.ext hW).load (by kernel_rfl) rfl, ⟨hi, hlt⟩, ?_⟩
    refine ⟨zs[i.toNat], fun W hW => (hseg.ext hW).load (by kernel_rfl) (by rw [Nat.mul_one, List.getElem?_map, List.getElem?_eq_getElem hk]; rfl), _, rfl, _, rfl, ?_⟩
    obtain ⟨z2, hz2, z20, z21⟩ := and255 (IntKind.wrap .i64 (z1 + IntKind.wrap .i64 zs[i.toNat]))
    refine ⟨z2, hz2, _, hb3.load (by kernel_rfl) rfl, exW ⟨by omega, by omega⟩ ?_⟩
    obtain ⟨w2, st2, hb4, ch2, _⟩ := hb3.store (P := P) (t := T_int) (k := 1) (v := .int .i64 (i + 1)) (by kernel_rfl) (by simp) rfl
    refine ⟨w2, st2, ?_⟩
    unfold spec_l01Byte_j0
    exact ⟨z2, rfl, z20, z21, ⟨e, i + 1, IntKind.wrap .i64 (IntKind.wrap .i64 (hh * 6364136223846793005) + 1442695040888963407), by omega, hb4⟩, (ch1.trans D3.toChg).trans ch2⟩
  · unfold spec_l01Byte_j0
    exact ⟨z1, rfl, z10, z11, ⟨e, i, IntKind.wrap .i64 (IntKind.wrap .i64 (hh * 6364136223846793005) + 1442695040888963407), hi, hb2⟩, ch1.trans D2.toChg⟩
theorem spec_l01Below_c {w : World} {r n c : Nat} {p : Option Addr} (hc : Cur w r p n c) (hb : ByR w p n) (hne : 0 < n -> ∀ q, p.map (·.block) = some q -> q ≠ r) (hn : n <= 1048576) {k : Int} (hk : 0 < k) (hk2 : k <= 1000000000) :
    Ret P n_spec_l01Below [.pointer (some ⟨r, 0, none⟩), .int .i64 k] w fun v w' => ∃ z : Int, v = .int .i64 z /\ 0 <= z /\ z < k /\ Cur w' r p n c /\ Chg [r] w w' := by
  refine spec_l01Below_ret ?_
  unfold spec_l01Below
  refine ifD (fun h => by omega) (fun _ => ifD (fun _ => ?_) (fun _ => ?_))
  · refine Ret.at (spec_l01Byte_c hc hb hne hn) ?_
    rintro v w1 ⟨z, rfl, z0, z1, hc1, ch1⟩
    refine ⟨_, rfl, by omega, _, rfl, _, rfl, ?_, ?_, hc1, ch1⟩
    · exact Int.tmod_nonneg _ z0
    · rw [Int.tmod_eq_emod_of_nonneg z0]; exact Int.emod_lt_of_pos _ hk
  · refine Ret.at (spec_l01Byte_c hc hb hne hn) ?_
    rintro v w1 ⟨x1, rfl, a0, a1, hc1, ch1⟩
    refine ⟨_, rfl, ?_⟩
    have hb1 := hb.chg ch1 hne
    refine Ret.at (spec_l01Byte_c hc1 hb1 hne hn) ?_
    rintro v w2 ⟨x2, rfl, b0, b1, hc2, ch2⟩
    refine ⟨_, rfl, ?_⟩
    have hb2 := hb1.chg ch2 hne
    refine Ret.at (spec_l01Byte_c hc2 hb2 hne hn) ?_
    rintro v w3 ⟨x3, rfl, c0, c1, hc3, ch3⟩
    refine ⟨_, rfl, ?_⟩
    have hb3 := hb2.chg ch3 hne
    refine Ret.at (spec_l01Byte_c hc3 hb3 hne hn) ?_
    rintro v w4 ⟨x4, rfl, d0, d1, hc4, ch4⟩
    refine ⟨_, rfl, exW ⟨by omega, by omega⟩ (exW ⟨by omega, by omega⟩ (exW ⟨by omega, by omega⟩ (exW ⟨by omega, by omega⟩ (exW ⟨by omega, by omega⟩ (exW ⟨by omega, by omega⟩ ⟨by omega, _, rfl, _, rfl, ?_, ?_, hc4, ((ch1.trans ch2).trans ch3).trans ch4⟩)))))⟩
    · exact Int.tmod_nonneg _ (by omega)
    · rw [Int.tmod_eq_emod_of_nonneg (by omega)]; exact Int.emod_lt_of_pos _ hk
theorem spec_l01Pick_c {w : World} {r n c : Nat} {p : Option Addr} (hc : Cur w r p n c) (hb : ByR w p n) (hne : 0 < n -> ∀ q, p.map (·.block) = some q -> q ≠ r) (hn : n <= 1048576) {lp : Option Addr} {ln lc : Nat} {zs : List Int} (hl : IntsR w lp ln lc zs) (hlr : ∀ q, lp.map (·.block) = some q -> q ≠ r) (h0 : 0 < ln) (h1 : ln <= 1000) :
    Ret P n_spec_l01Pick [.pointer (some ⟨r, 0, none⟩), .slice lp ln lc] w fun v w' => ∃ z : Int, v = .int .i64 z /\ z ∈ zs /\ Cur w' r p n c /\ Chg [r] w w' := by
  refine spec_l01Pick_ret ?_
  unfold spec_l01Pick
  refine Ret.at (spec_l01Below_c hc hb hne hn (k := ((ln : Nat) : Int)) (by omega) (by omega)) ?_
  rintro v w1 ⟨z, rfl, z0, z1, hc1, ch1⟩
  have hl1 := hl.chg ch1 (fun q hq hm => hlr q hq (List.mem_singleton.1 hm))
  obtain ⟨a, rfl, hld⟩ := ints_at hl1 z0 z1
  refine ⟨_, rfl, ⟨z0, z1⟩, _, hld, _, rfl, ?_, hc1, ch1⟩
  have hk : z.toNat < zs.length := by have := hl.1; omega
  rw [List.getD_eq_getElem?_getD, List.getElem?_eq_getElem hk]
  exact List.getElem_mem hk
end Go.Proofs.YtbgokfhcgcoipaaGreatDoor
namespace Go.Proofs.YtbgokfhcgcoipaaGreatDoor
open Go Go.Proofs.YtbgokfhcgcoipaaGreatDoor.Sx
theorem ByR.ne {W : World} {p : Option Addr} {n r : Nat} (h : ByR W p n) (hr : W.heap.size <= r) : 0 < n -> ∀ q, p.map (·.block) = some q -> q ≠ r := fun hn q hq => by
  obtain ⟨b, o, zs, rfl, _, _, h4⟩ := h hn
  simp only [Option.map_some, Option.some.injEq] at hq
  omega
theorem curBump {W : World} {r n c : Nat} {p : Option Addr} {k : Int} (hc : Cur W r p n c) {Q : World -> Prop} (hq : ∀ W', Cur W' r p n c -> Chg [r] W W' -> Q W') :
    ∃ t : Int, Loads P T_int ((⟨r, 0, none⟩ : Addr).add 2) (.int .i64 t) W /\ ∃ t2 : Int, t2 = IntKind.wrap .i64 (t + k) /\ ∃ W', Stores P T_int ((⟨r, 0, none⟩ : Addr).add 2) (.int .i64 t2) W W' /\ Q W' := by
  obtain ⟨e, i, x, h1, h2⟩ := hc
  obtain ⟨W', st, hb, ch, _⟩ := h2.store (P := P) (t := T_int) (k := 2) (v := .int .i64 (IntKind.wrap .i64 (x + k))) (by kernel_rfl) (by simp) rfl
  exact ⟨x, h2.load (by kernel_rfl) rfl, _, rfl, W', st, hq W' ⟨e, i, _, h1, hb⟩ ch⟩
theorem spec_MakeMode_c {w : World} {p : Option Addr} {n c : Nat} (h : ByR w p n) (hn : n <= 1048576) : Ret P n_spec_MakeMode [.slice p n c] w fun v w' => ∃ z : Int, v = .int .i64 z /\ 0 <= z /\ z < 7 /\ Ext w w' := by
  refine spec_MakeMode_ret ?_
  unfold spec_MakeMode
  refine Ret.at (spec_l01New_c h hn) ?_
  rintro v w1 ⟨r, rfl, hr, hc, y1⟩
  refine ⟨_, rfl, curBump hc fun w2 hc2 ch2 => ?_⟩
  refine Ret.at (spec_l01Below_c hc2 ((h.ext y1).chg ch2 (h.ne hr)) (h.ne hr) hn (k := 7) (by decide) (by decide)) ?_
  rintro v w3 ⟨z, rfl, z0, z1, _, ch3⟩
  exact ⟨_, rfl, z, rfl, z0, z1, (y1.chg ch2 (fun q hq => by have := List.mem_singleton.1 hq; omega)).chg ch3 (fun q hq => by have := List.mem_singleton.1 hq; omega)⟩
def rateNums : List Int := [0, 1, 25, 77, 81, 190, 200, 1000]
def rateScales : List Int := [3, 3, 4]
theorem spec_l13Rate_c {w : World} {r n c : Nat} {p : Option Addr} (hc : Cur w r p n c) (hb : ByR w p n) (hne : 0 < n -> ∀ q, p.map (·.block) = some q -> q ≠ r) (hn : n <= 1048576) :
    Ret P n_spec_l13Rate [.pointer (some ⟨r, 0, none⟩)] w fun v w' => ∃ (z s : Int) (vs : List Value) (f : List Nat), v = .agg ⟨vs⟩ /\ z ∈ rateNums /\ s ∈ rateScales /\ Owns w' w.heap.size vs (enc z ++ [.int s]) f /\ f.Nodup /\ Cur w' r p n c /\ Chg [r] w w' := by
  have hrl := hc.lt
  refine spec_l13Rate_ret ?_
  unfold spec_l13Rate
  intro r0 w1 hn1 r1 w2 hn2
  have e1 := hn1.r_eq; have e2 := hn2.r_eq; have z1 := hn1.size; have z2 := hn2.size
  have X2 := hn1.ext.trans hn2.ext
  have l8 : IntsR w2 (some ⟨r1, 0, none⟩) 8 8 rateNums := by
    have := Own.of_blk (base := 0) (size := 1) (n := 8) hn2.blk (Nat.zero_le _) rfl (by decide)
    exact Own.ints (zs := rateNums) this
  refine Ret.at (spec_l01Pick_c (hc.ext X2) (hb.ext X2) hne hn l8 (fun q hq => by simp only [Option.map_some, Option.some.injEq] at hq; omega) (by decide) (by decide)) ?_
  rintro v w3 ⟨z, rfl, hz, hc3, ch3⟩
  refine ⟨_, rfl, ?_⟩
  have hzb : 0 <= z /\ z <= 1000 := by simp only [rateNums, List.mem_cons, List.not_mem_nil, or_false] at hz; omega
  refine Ret.at (spec_IntOf_c (n := z) (by omega) (by omega)) ?_
  rintro v w4 ⟨vs4, f4, hv, ho4, nd4, y4⟩
  subst hv
  obtain ⟨a0, ap, an, ac, az, rfl, _, _⟩ := open_Signed ho4.reps (enc_code _)
  refine ⟨_, _, _, _, rfl, ?_⟩
  intro r2 w5 hn5
  have e5 := hn5.r_eq; have z5 := hn5.size; have l3 := ch3.size; have l4 := y4.le
  have Y5 := y4.trans hn5.ext
  have l3s : IntsR w5 (some ⟨r2, 0, none⟩) 3 3 rateScales := by
    have := Own.of_blk (base := 0) (size := 1) (n := 3) hn5.blk (Nat.zero_le _) rfl (by decide)
    exact Own.ints (zs := rateScales) this
  have hb5 := ((hb.ext X2).chg ch3 hne).ext Y5
  refine Ret.at (spec_l01Pick_c (hc3.ext Y5) hb5 hne hn l3s (fun q hq => by simp only [Option.map_some, Option.some.injEq] at hq; omega) (by decide) (by decide)) ?_
  rintro v w6 ⟨s, rfl, hs, hc6, ch6⟩
  have hb0 : Blk w6 r0 _ _ := (((hn1.blk.ext hn2.ext).chg ch3 (fun hm => by have := List.mem_singleton.1 hm; omega)).ext Y5).chg ch6 (fun hm => by have := List.mem_singleton.1 hm; omega)
  have lt4 := ho4.lt
  have ho6 : Owns w6 w3.heap.size [.bool a0, .slice ap an ac, .int .i64 s] (enc z ++ [.int s]) f4 := by
    have h1 := (ho4.ext hn5.ext).chg ch6 (fun q hq hm => by have := (lt4 q hq).1; have := List.mem_singleton.1 hm; omega)
    have := Owns.append h1 (Owns.int w6 w3.heap.size s)
    simpa using this
  obtain ⟨w7, st7, hb7, ch7, _⟩ := hb0.storeA0 (P := P) (t := T_impl_Dec) (xs := [.bool a0, .slice ap an ac, .int .i64 s]) (by kernel_rfl) rfl ho6.reps.cells1
  have C6 : Chg [r] w w6 := ((X2.toChg.trans ch3).trans Y5.toChg).trans ch6
  refine ⟨_, rfl, w7, st7, _, _, _, _, _, hb7.loadA0 (by kernel_rfl), z, s, _, f4, rfl, hz, hs, ((ho6.chg ch7 (fun q hq hm => by have := (lt4 q hq).1; have := List.mem_singleton.1 hm; omega)).mono (by omega)), nd4, ?_, ?_⟩
  · obtain ⟨e, i, x, g1, g2⟩ := hc6
    exact ⟨e, i, x, g1, g2.chg ch7 (fun hm => by have := List.mem_singleton.1 hm; omega)⟩
  · refine ⟨ch7.os.trans C6.os, ch7.tape.trans C6.tape, ch7.output.trans C6.output, Nat.le_trans C6.size ch7.size, fun k hk hm => ?_⟩
    rw [ch7.block k (Nat.lt_of_lt_of_le hk C6.size) (fun h7 => by have := List.mem_singleton.1 h7; omega)]
    exact C6.block k hk hm
theorem spec_MakeRate_c {w : World} {p : Option Addr} {n c : Nat} (h : ByR w p n) (hn : n <= 1048576) : Ret P n_spec_MakeRate [.slice p n c] w fun v w' => ∃ (z s : Int) (vs : List Value) (f : List Nat), v = .agg ⟨vs⟩ /\ z ∈ rateNums /\ s ∈ rateScales /\ Owns w' w.heap.size vs (enc z ++ [.int s]) f /\ f.Nodup /\ Ext w w' := by
  refine spec_MakeRate_ret ?_
  unfold spec_MakeRate
  intro r0 w0 hn0
  have e0 := hn0.r_eq; have z0 := hn0.size
  have h0 := h.ext hn0.ext
  refine Ret.at (spec_l01New_c h0 hn) ?_
  rintro v w1 ⟨r, rfl, hr, hc, y1⟩
  refine ⟨_, rfl, curBump hc fun w2 hc2 ch2 => ?_⟩
  refine Ret.at (spec_l13Rate_c hc2 ((h0.ext y1).chg ch2 (h0.ne hr)) (h0.ne hr) hn) ?_
  rintro v w3 ⟨z, s, vs, f, hv, hz, hs, ho, hnd, _, ch3⟩
  subst hv
  have Y2 : Ext w0 w2 := y1.chg ch2 (fun q hq => by have := List.mem_singleton.1 hq; omega)
  have Y3 : Ext w0 w3 := Y2.chg ch3 (fun q hq => by have := List.mem_singleton.1 hq; omega)
  have l2 := Y2.le
  obtain ⟨a0, ap, an, ac, az, sc, rfl, _, _⟩ := open_Dec ho.reps rfl
  obtain ⟨W', st', ld', ow', xx', _, _⟩ := agg_end (t := T_impl_Dec) (hn0.blk.ext Y3) (hn0.ext.trans Y3) (by omega) ho (by kernel_rfl) rfl (by omega) (by omega)
  exact ⟨_, _, _, _, _, rfl, W', st', _, _, _, _, _, ld', z, s, _, f, rfl, hz, hs, ow', hnd, xx'⟩
end Go.Proofs.YtbgokfhcgcoipaaGreatDoor
namespace Go.Proofs.YtbgokfhcgcoipaaGreatDoor
open Go Go.Proofs.YtbgokfhcgcoipaaGreatDoor.Sx
theorem rate_form {z s : Int} (hz : z ∈ rateNums) (hs : s ∈ rateScales) : ∃ m t : Nat, enc z ++ [.int s] = [.bool false, .ints (digs m), .int (t : Int)] /\ taxOk [.bool false, .ints (digs m), .int (t : Int)] = true := by
  have h1 : ∀ z ∈ rateNums, ∀ s ∈ rateScales, taxOk (enc z ++ [.int s]) = true := by decide +kernel
  have h2 : ∀ z ∈ rateNums, 0 <= z := by decide
  have h3 : ∀ s ∈ rateScales, 0 <= s := by decide
  have hz0 := h2 z hz; have hs0 := h3 s hs
  refine ⟨z.toNat, s.toNat, ?_, ?_⟩
  · have e := enc_nat z.toNat
    rw [show ((z.toNat : Nat) : Int) = z by omega] at e
    rw [e, show ((s.toNat : Nat) : Int) = s by omega]; rfl
  · have e := enc_nat z.toNat
    rw [show ((z.toNat : Nat) : Int) = z by omega] at e
    have h4 := h1 z hz s hs
    rw [e] at h4
    rw [show ((s.toNat : Nat) : Int) = s by omega]
    exact h4
theorem mode_form {m : Int} (h0 : 0 <= m) (h1 : m < 7) : modeOk m = true := decide_eq_true ⟨h0, by omega⟩
end Go.Proofs.YtbgokfhcgcoipaaGreatDoor
namespace Go.Proofs.YtbgokfhcgcoipaaGreatDoor
open Go Go.Shelf
def ren105 : Ren := ⟨fun x => match x with | 105 => 234 | 212 => 283 | 99 => 284 | 165 => 226 | 166 => 227 | 170 => 285 | 169 => 228 | 263 => 318 | 264 => 319 | 206 => 320 | 240 => 277 | 241 => 278 | 276 => 314 | 277 => 315 | n => n, fun x => match x with | 9 => 9 | 3 => 3 | 4 => 4 | 20 => 20 | 0 => 0 | 46 => 235 | 109 => 287 | 5 => 5 | 72 => 248 | 76 => 188 | 51 => 223 | 146 => 318 | 53 => 153 | 148 => 320 | 70 => 246 | 37 => 28 | 75 => 187 | 127 => 282 | 164 => 310 | 80 => 250 | n => n, fun x => x⟩
theorem lays105 : Lays.n105 Tryz.prog ren105 := {
  mixed := by kernel_rfl,
  f99 := Tryz.func284.trans (congrArg some (by kernel_rfl)),
  f105 := Tryz.func234.trans (congrArg some (by kernel_rfl)),
  f165 := Tryz.func226.trans (congrArg some (by kernel_rfl)),
  f166 := Tryz.func227.trans (congrArg some (by kernel_rfl)),
  f169 := Tryz.func228.trans (congrArg some (by kernel_rfl)),
  f170 := Tryz.func285.trans (congrArg some (by kernel_rfl)),
  f206 := Tryz.func320.trans (congrArg some (by kernel_rfl)),
  f212 := Tryz.func283.trans (congrArg some (by kernel_rfl)),
  f240 := Tryz.func277.trans (congrArg some (by kernel_rfl)),
  f241 := Tryz.func278.trans (congrArg some (by kernel_rfl)),
  f263 := Tryz.func318.trans (congrArg some (by kernel_rfl)),
  f264 := Tryz.func319.trans (congrArg some (by kernel_rfl)),
  f276 := Tryz.func314.trans (congrArg some (by kernel_rfl)),
  f277 := Tryz.func315.trans (congrArg some (by kernel_rfl)),
  t0 := Tryz.underlying0,
  a0 := Tryz.isAgg0,
  z0 := Tryz.sizeOf0,
  v0 := Tryz.zeroValue0,
  t3 := Tryz.underlying3,
  a3 := Tryz.isAgg3,
  z3 := Tryz.sizeOf3,
  v3 := Tryz.zeroValue3,
  t4 := Tryz.underlying4,
  a4 := Tryz.isAgg4,
  z4 := Tryz.sizeOf4,
  v4 := Tryz.zeroValue4,
  t5 := Tryz.underlying5,
  a5 := Tryz.isAgg5,
  z5 := Tryz.sizeOf5,
  v5 := Tryz.zeroValue5,
  t9 := Tryz.underlying9,
  a9 := Tryz.isAgg9,
  z9 := Tryz.sizeOf9,
  v9 := Tryz.zeroValue9,
  t20 := Tryz.underlying20,
  a20 := Tryz.isAgg20,
  z20 := Tryz.sizeOf20,
  v20 := Tryz.zeroValue20,
  t37 := Tryz.underlying28,
  a37 := Tryz.isAgg28,
  z37 := Tryz.sizeOf28,
  v37 := Tryz.zeroValue28,
  t46 := Tryz.underlying235,
  a46 := Tryz.isAgg235,
  z46 := Tryz.sizeOf235,
  v46 := Tryz.zeroValue235,
  t51 := Tryz.underlying223,
  a51 := Tryz.isAgg223,
  z51 := Tryz.sizeOf223,
  v51 := Tryz.zeroValue223,
  t53 := Tryz.underlying153,
  a53 := Tryz.isAgg153,
  z53 := Tryz.sizeOf153,
  v53 := Tryz.zeroValue153,
  t70 := Tryz.underlying246,
  a70 := Tryz.isAgg246,
  z70 := Tryz.sizeOf246,
  v70 := Tryz.zeroValue246,
  t72 := Tryz.underlying248,
  a72 := Tryz.isAgg248,
  z72 := Tryz.sizeOf248,
  v72 := Tryz.zeroValue248,
  t75 := Tryz.underlying187,
  a75 := Tryz.isAgg187,
  z75 := Tryz.sizeOf187,
  v75 := Tryz.zeroValue187,
  t76 := Tryz.underlying188,
  a76 := Tryz.isAgg188,
  z76 := Tryz.sizeOf188,
  v76 := Tryz.zeroValue188,
  t109 := Tryz.underlying287,
  a109 := Tryz.isAgg287,
  z109 := Tryz.sizeOf287,
  v109 := Tryz.zeroValue287,
  t127 := Tryz.underlying282,
  a127 := Tryz.isAgg282,
  z127 := Tryz.sizeOf282,
  v127 := Tryz.zeroValue282,
  t146 := Tryz.underlying318,
  a146 := Tryz.isAgg318,
  z146 := Tryz.sizeOf318,
  v146 := Tryz.zeroValue318,
  t148 := Tryz.underlying320,
  a148 := Tryz.isAgg320,
  z148 := Tryz.sizeOf320,
  v148 := Tryz.zeroValue320,
  t164 := Tryz.underlying310,
  a164 := Tryz.isAgg310,
  z164 := Tryz.sizeOf310,
  v164 := Tryz.zeroValue310 }
def ren156 : Ren := ⟨fun x => match x with | 156 => 168 | 165 => 226 | 166 => 227 | 169 => 228 | 240 => 277 | 241 => 278 | 276 => 314 | 277 => 315 | n => n, fun x => match x with | 31 => 98 | 9 => 9 | 3 => 3 | 4 => 4 | 0 => 0 | 20 => 20 | 72 => 248 | 76 => 188 | 70 => 246 | 37 => 28 | 75 => 187 | 127 => 282 | 164 => 310 | 5 => 5 | 80 => 250 | n => n, fun x => x⟩
theorem lays156 : Lays.n156 Tryz.prog ren156 := {
  mixed := by kernel_rfl,
  f156 := Tryz.func168.trans (congrArg some (by kernel_rfl)),
  f165 := Tryz.func226.trans (congrArg some (by kernel_rfl)),
  f166 := Tryz.func227.trans (congrArg some (by kernel_rfl)),
  f169 := Tryz.func228.trans (congrArg some (by kernel_rfl)),
  f240 := Tryz.func277.trans (congrArg some (by kernel_rfl)),
  f241 := Tryz.func278.trans (congrArg some (by kernel_rfl)),
  f276 := Tryz.func314.trans (congrArg some (by kernel_rfl)),
  f277 := Tryz.func315.trans (congrArg some (by kernel_rfl)),
  t0 := Tryz.underlying0,
  a0 := Tryz.isAgg0,
  z0 := Tryz.sizeOf0,
  v0 := Tryz.zeroValue0,
  t3 := Tryz.underlying3,
  a3 := Tryz.isAgg3,
  z3 := Tryz.sizeOf3,
  v3 := Tryz.zeroValue3,
  t4 := Tryz.underlying4,
  a4 := Tryz.isAgg4,
  z4 := Tryz.sizeOf4,
  v4 := Tryz.zeroValue4,
  t9 := Tryz.underlying9,
  a9 := Tryz.isAgg9,
  z9 := Tryz.sizeOf9,
  v9 := Tryz.zeroValue9,
  t20 := Tryz.underlying20,
  a20 := Tryz.isAgg20,
  z20 := Tryz.sizeOf20,
  v20 := Tryz.zeroValue20,
  t31 := Tryz.underlying98,
  a31 := Tryz.isAgg98,
  z31 := Tryz.sizeOf98,
  v31 := Tryz.zeroValue98,
  t37 := Tryz.underlying28,
  a37 := Tryz.isAgg28,
  z37 := Tryz.sizeOf28,
  v37 := Tryz.zeroValue28,
  t70 := Tryz.underlying246,
  a70 := Tryz.isAgg246,
  z70 := Tryz.sizeOf246,
  v70 := Tryz.zeroValue246,
  t72 := Tryz.underlying248,
  a72 := Tryz.isAgg248,
  z72 := Tryz.sizeOf248,
  v72 := Tryz.zeroValue248,
  t75 := Tryz.underlying187,
  a75 := Tryz.isAgg187,
  z75 := Tryz.sizeOf187,
  v75 := Tryz.zeroValue187,
  t76 := Tryz.underlying188,
  a76 := Tryz.isAgg188,
  z76 := Tryz.sizeOf188,
  v76 := Tryz.zeroValue188,
  t127 := Tryz.underlying282,
  a127 := Tryz.isAgg282,
  z127 := Tryz.sizeOf282,
  v127 := Tryz.zeroValue282,
  t164 := Tryz.underlying310,
  a164 := Tryz.isAgg310,
  z164 := Tryz.sizeOf310,
  v164 := Tryz.zeroValue310 }
def ren171 : Ren := ⟨fun x => match x with | 171 => 162 | 243 => 223 | 246 => 275 | 283 => 310 | 284 => 311 | 285 => 312 | 286 => 313 | 129 => 253 | 317 => 335 | 318 => 336 | 319 => 337 | 320 => 338 | 337 => 355 | 338 => 356 | n => n, fun x => match x with | 3 => 3 | 9 => 9 | 2 => 2 | 4 => 4 | 171 => 306 | 0 => 0 | 53 => 153 | 37 => 28 | 5 => 5 | 173 => 308 | 212 => 338 | 51 => 223 | 20 => 20 | 213 => 339 | 46 => 235 | 232 => 345 | 233 => 346 | n => n, fun x => match x with | 17 => 4 | 18 => 5 | 19 => 6 | n => n⟩
theorem lays171 : LaysM.n171 Tryz.prog ren171 := {
  mixed := by kernel_rfl,
  f129 := Tryz.func253.trans (congrArg some (by kernel_rfl)),
  f171 := Tryz.func162.trans (congrArg some (by kernel_rfl)),
  f243 := Tryz.func223.trans (congrArg some (by kernel_rfl)),
  f246 := Tryz.func275.trans (congrArg some (by kernel_rfl)),
  f283 := Tryz.func310.trans (congrArg some (by kernel_rfl)),
  f284 := Tryz.func311.trans (congrArg some (by kernel_rfl)),
  f285 := Tryz.func312.trans (congrArg some (by kernel_rfl)),
  f286 := Tryz.func313.trans (congrArg some (by kernel_rfl)),
  f317 := Tryz.func335.trans (congrArg some (by kernel_rfl)),
  f318 := Tryz.func336.trans (congrArg some (by kernel_rfl)),
  f319 := Tryz.func337.trans (congrArg some (by kernel_rfl)),
  f320 := Tryz.func338.trans (congrArg some (by kernel_rfl)),
  f337 := Tryz.func355.trans (congrArg some (by kernel_rfl)),
  f338 := Tryz.func356.trans (congrArg some (by kernel_rfl)),
  t0 := Tryz.underlying0,
  a0 := Tryz.isAgg0,
  z0 := Tryz.sizeOf0,
  v0 := Tryz.zeroValue0,
  t2 := Tryz.underlying2,
  a2 := Tryz.isAgg2,
  z2 := Tryz.sizeOf2,
  v2 := Tryz.zeroValue2,
  t3 := Tryz.underlying3,
  a3 := Tryz.isAgg3,
  z3 := Tryz.sizeOf3,
  v3 := Tryz.zeroValue3,
  t4 := Tryz.underlying4,
  a4 := Tryz.isAgg4,
  z4 := Tryz.sizeOf4,
  v4 := Tryz.zeroValue4,
  t5 := Tryz.underlying5,
  a5 := Tryz.isAgg5,
  z5 := Tryz.sizeOf5,
  v5 := Tryz.zeroValue5,
  t9 := Tryz.underlying9,
  a9 := Tryz.isAgg9,
  z9 := Tryz.sizeOf9,
  v9 := Tryz.zeroValue9,
  t20 := Tryz.underlying20,
  a20 := Tryz.isAgg20,
  z20 := Tryz.sizeOf20,
  v20 := Tryz.zeroValue20,
  t37 := Tryz.underlying28,
  a37 := Tryz.isAgg28,
  z37 := Tryz.sizeOf28,
  v37 := Tryz.zeroValue28,
  t46 := Tryz.underlying235,
  a46 := Tryz.isAgg235,
  z46 := Tryz.sizeOf235,
  v46 := Tryz.zeroValue235,
  t51 := Tryz.underlying223,
  a51 := Tryz.isAgg223,
  z51 := Tryz.sizeOf223,
  v51 := Tryz.zeroValue223,
  t53 := Tryz.underlying153,
  a53 := Tryz.isAgg153,
  z53 := Tryz.sizeOf153,
  v53 := Tryz.zeroValue153,
  t171 := Tryz.underlying306,
  a171 := Tryz.isAgg306,
  z171 := Tryz.sizeOf306,
  v171 := Tryz.zeroValue306,
  t173 := Tryz.underlying308,
  a173 := Tryz.isAgg308,
  z173 := Tryz.sizeOf308,
  v173 := Tryz.zeroValue308,
  t212 := Tryz.underlying338,
  a212 := Tryz.isAgg338,
  z212 := Tryz.sizeOf338,
  v212 := Tryz.zeroValue338,
  t213 := Tryz.underlying339,
  a213 := Tryz.isAgg339,
  z213 := Tryz.sizeOf339,
  t232 := Tryz.underlying345,
  a232 := Tryz.isAgg345,
  z232 := Tryz.sizeOf345,
  v232 := Tryz.zeroValue345,
  t233 := Tryz.underlying346,
  a233 := Tryz.isAgg346,
  z233 := Tryz.sizeOf346,
  v233 := Tryz.zeroValue346,
  g17 := by kernel_rfl,
  g18 := by kernel_rfl,
  g19 := by kernel_rfl,
  i0 := by kernel_rfl,
  i2 := by kernel_rfl,
  i3 := by kernel_rfl,
  i4 := by kernel_rfl,
  i5 := by kernel_rfl,
  i9 := by kernel_rfl,
  i20 := by kernel_rfl,
  i37 := by kernel_rfl,
  i46 := by kernel_rfl,
  i51 := by kernel_rfl,
  i53 := by kernel_rfl,
  i171 := by kernel_rfl,
  i173 := by kernel_rfl,
  i212 := by kernel_rfl,
  i232 := by kernel_rfl,
  i233 := by kernel_rfl,
  m17 := by kernel_rfl,
  m18 := by kernel_rfl,
  m19 := by kernel_rfl }
end Go.Proofs.YtbgokfhcgcoipaaGreatDoor
namespace Go.Proofs.YtbgokfhcgcoipaaGreatDoor
open Go Go.Proofs.YtbgokfhcgcoipaaGreatDoor.Sx
def TabP (w : World) : Prop := Lib.TabIs P w "internal/strconv.uint64pow10" .u64 Lib.pow10Tab
theorem TabP.ext {w w' : World} (h : TabP w) (he : Ext w w') : TabP w' := Joins.tab_stays lays171.m17 h he (Nat.le_refl _)
theorem X105 : Go.Proofs.Builder.Extra P ren105 where
  sizeBuilder := by kernel_rfl
  liesBuilder := by kernel_rfl
  t5 := lays105.t5
  a5 := lays105.a5
  z5 := lays105.z5
  v5 := lays105.v5
  infoByte := by kernel_rfl
  cellsByte := by kernel_rfl
  sizeByte := by kernel_rfl
  neB5 := by decide
theorem ba_ext {a b : ByteArray} (h : a.data.toList = b.data.toList) : a = b := by
  obtain ⟨⟨x⟩⟩ := a; obtain ⟨⟨y⟩⟩ := b
  simp at h; subst h; rfl
theorem ba_size (a : ByteArray) : a.size = a.data.toList.length := rfl
theorem ba_empty_append (a : ByteArray) : ByteArray.empty ++ a = a := ba_ext (by simp)
theorem ba_append_empty (a : ByteArray) : a ++ ByteArray.empty = a := ba_ext (by simp)
def itxt (u : Nat) : ByteArray := ⟨(Lib.decDigits u).toArray⟩
theorem decDigits_small {u : Nat} (h : u < 10) : Lib.decDigits u = [UInt8.ofNat (48 + u)] := by rw [Lib.decDigits, dif_pos h]
theorem decDigits_big {u : Nat} (h : ¬ u < 10) : Lib.decDigits u = Lib.decDigits (u / 10) ++ [UInt8.ofNat (48 + u % 10)] := by rw [Lib.decDigits, dif_neg h]
theorem itxt_small {u : Nat} (h : u < 10) : itxt u = strOfNums [((48 + u : Nat) : Int)] := ba_ext (by rw [strOfNums_data, itxt, decDigits_small h]; rfl)
theorem itxt_big {u : Nat} (h : ¬ u < 10) : itxt u = itxt (u / 10) ++ strOfNums [((48 + u % 10 : Nat) : Int)] := ba_ext (by
  have e : (itxt u).data.toList = Lib.decDigits u := by simp [itxt]
  have e1 : (itxt (u / 10)).data.toList = Lib.decDigits (u / 10) := by simp [itxt]
  rw [e, decDigits_big h, ByteArray.data_append, Array.toList_append, e1, strOfNums_data]; rfl)
theorem itxt_lt : ∀ (k : Nat) {u : Nat}, u < 10 ^ (k + 1) -> (itxt u).size <= k + 1
  | 0, u, h => by rw [itxt_small (by simpa using h), strOfNums_size]; simp
  | k + 1, u, h => by
    by_cases h1 : u < 10
    · rw [itxt_small h1, strOfNums_size]; simp
    · have h2 : u / 10 < 10 ^ (k + 1) := by rw [Nat.pow_succ] at h; omega
      have := itxt_lt k h2
      rw [itxt_big h1, ByteArray.size_append, strOfNums_size]
      simp; omega
theorem itxt_limb {u : Nat} (h : u < 1000000000) : (itxt u).size <= 9 := itxt_lt 8 (by simpa using h)
theorem impl_IntText_c {w : World} {n : Int} (ht : TabP w) (h0 : 0 <= n) (h1 : n <= 9223372036854775807) : Ret P n_impl_IntText [.int .i64 n] w fun v w' => v = .string (itxt n.toNat) /\ Ext w w' := by
  refine impl_IntText_ret ?_
  unfold impl_IntText
  obtain ⟨u, rfl⟩ : ∃ u : Nat, n = u := ⟨n.toNat, by omega⟩
  refine (Any.strconv_Itoa lays171 (u : Int) (by omega) h1 w ht).mono ?_
  rintro e w' ⟨rfl, k, os, rfl⟩
  rw [Lib.itoa_nonneg]
  exact ⟨_, rfl, rfl, Lib.below_grow _ _ (Nat.le_refl _) _ _⟩
def zeros (k : Nat) : ByteArray := ⟨(List.replicate k (48 : UInt8)).toArray⟩
def padT (s : ByteArray) (n : Int) : ByteArray := if n <= (s.size : Nat) ∨ 2000 < n then s else zeros (n - (s.size : Nat)).toNat ++ s
theorem zeros_size (k : Nat) : (zeros k).size = k := by simp [zeros, ByteArray.size]
theorem padT_le {s : ByteArray} {n : Int} {k : Nat} (h1 : s.size <= k) (h2 : n <= k) : (padT s n).size <= k := by
  unfold padT
  split
  · exact h1
  · rw [ByteArray.size_append, zeros_size]; omega
theorem padT_ge {s : ByteArray} {n : Int} (h : n <= 2000) : n <= ((padT s n).size : Nat) := by
  unfold padT
  split
  · omega
  · rw [ByteArray.size_append, zeros_size]; omega
theorem repeat_zeros (c : Nat) : (⟨(Lib.repeatL (S [48]).data.toList c).toArray⟩ : ByteArray) = zeros c := by
  have : ∀ c, Lib.repeatL (S [48]).data.toList c = List.replicate c (48 : UInt8) := fun c => by
    induction c with
    | zero => rfl
    | succ c ih => rw [Lib.repeatL, ih]; rfl
  rw [this]; rfl
theorem impl_Pad_c {w : World} (s : ByteArray) (n : Int) (hs : s.size <= 4611686018427387904) (hn : -4611686018427387904 <= n) : Ret P n_impl_Pad [.string s, .int .i64 n] w fun v w' => v = .string (padT s n) /\ Ext w w' := by
  refine impl_Pad_ret ?_
  unfold impl_Pad
  refine ifD (fun h => ifT ⟨by rw [padT, if_pos (.inl h)], Ext.refl _⟩) (fun h => ifD (fun h2 => ⟨by rw [padT, if_pos (.inr h2)], Ext.refl _⟩) (fun h2 => ?_))
  refine exW ⟨by omega, by omega⟩ ?_
  obtain ⟨c, hc⟩ : ∃ c : Nat, n - (s.size : Nat) = c := ⟨(n - (s.size : Nat)).toNat, by omega⟩
  rw [hc]
  refine (Any.strings_Repeat lays105 X105 (S [48]) c w (by omega) (by show 1 * c <= 140737488355328; omega)).mono ?_
  rintro e w' ⟨rfl, hx⟩
  rw [repeat_zeros]
  refine ⟨_, rfl, ?_, _, rfl, ?_, hx⟩
  · rw [zeros_size]; omega
  · rw [padT, if_neg (by omega), hc]; rfl
def natR : List Int -> ByteArray
  | [] => ByteArray.empty
  | x :: r => padT (itxt x.toNat) 9 ++ natR r
def natT (l : List Int) : ByteArray := match l.reverse with
  | [] => S [48]
  | x :: r => itxt x.toNat ++ natR r
theorem limb_text {x : Int} (h : 0 <= x /\ x < 1000000000) : (itxt x.toNat).size <= 9 /\ (padT (itxt x.toNat) 9).size <= 9 :=
  have h1 := itxt_limb (u := x.toNat) (by omega)
  ⟨h1, padT_le h1 (by decide)⟩
theorem natR_size : ∀ {l : List Int}, Limbs l -> (natR l).size <= l.length * 9
  | [], _ => by simp [natR]
  | x :: r, h => by
    have h := Limbs.cons.1 h
    have h1 := natR_size h.2; have h2 := (limb_text h.1).2
    rw [natR, ByteArray.size_append, List.length_cons]
    omega
theorem natT_size {l : List Int} (h : Limbs l) : (natT l).size <= l.length * 9 + 1 := by
  unfold natT
  cases e : l.reverse with
  | nil => show 1 <= _; omega
  | cons x r =>
    have hl : l.length = r.length + 1 := by rw [<- List.length_reverse, e]; rfl
    have hh : Limbs (x :: r) := fun y hy => h y (by rw [<- List.mem_reverse, e]; exact hy)
    have hh := Limbs.cons.1 hh
    have h1 := natR_size hh.2; have h2 := (limb_text hh.1).1
    show (itxt x.toNat ++ natR r).size <= _
    rw [ByteArray.size_append, hl]; omega
theorem rev_take_succ {l : List Int} {t : Nat} (h : t < l.length) : (l.take (t + 1)).reverse = l.getD t 0 :: (l.take t).reverse := by
  rw [List.take_add_one, List.getElem?_eq_getElem h, List.getD_eq_getElem?_getD, List.getElem?_eq_getElem h]
  simp
theorem natT_top {l : List Int} {n : Nat} (h : l.length = n + 1) : natT l = itxt (l.getD n 0).toNat ++ natR (l.take n).reverse := by
  have := rev_take_succ (l := l) (t := n) (by omega)
  rw [List.take_of_length_le (by omega)] at this
  unfold natT
  rw [this]
theorem impl_natText_c {w : World} {p : Option Addr} {n c : Nat} {z : List Int} (h : IntsR w p n c z) (hlz : Limbs z) (hn : n <= 1000) (ht : TabP w) :
    Ret P n_impl_natText [.slice p n c] w fun v w' => v = .string (natT z) /\ Ext w w' := by
  refine impl_natText_ret ?_
  unfold impl_natText
  have hlen := h.1
  have XS := Ext.refl w
  refine ifD (fun h0 => ⟨?_, XS⟩) (fun h0 => ?_)
  · rw [List.eq_nil_of_length_eq_zero (show z.length = 0 by omega)]; rfl
  · skip
    obtain ⟨m, rfl⟩ : ∃ m, n = m + 1 := ⟨n - 1, by omega⟩
    have e1 : ((m + 1 : Nat) : Int) - 1 = (m : Int) := by omega
    have e2 : ((m + 1 : Nat) : Int) - 2 = (m : Int) - 1 := by omega
    rw [e1, e2]
    have T := hlz.getD m
    obtain ⟨ad, rfl, hl⟩ := ints_at (h.ext XS) (i := (m : Int)) (by omega) (by omega)
    simp only [Int.toNat_natCast] at hl
    refine exW ⟨by omega, by omega⟩ ⟨⟨by omega, by omega⟩, _, by simpa only [Int.toNat_natCast] using hl, ?_⟩
    refine Ret.at (impl_IntText_c (ht.ext XS) T.1 (by omega)) ?_
    rintro v w2 ⟨hv, y2⟩
    subst hv
    refine ⟨_, rfl, exW ⟨by omega, by omega⟩ ⟨fun text i wr => ∃ s : Nat, i = (s : Int) - 1 /\ s <= m /\ text.size <= (m - s) * 9 + 9 /\ natT z = text ++ natR (z.take s).reverse /\ Ext w wr, fun _ i _ => (i + 1).toNat,
      ⟨m, rfl, by omega, by have := (limb_text T).1; omega, natT_top hlen, XS.trans y2⟩, ?_⟩⟩
    intro junk wr text i ⟨s, hi, hs, hsz, htx, hx⟩
    subst hi
    refine ifD (fun hpos => ?_) (fun hend => ?_)
    · obtain ⟨t, rfl⟩ : ∃ t, s = t + 1 := ⟨s - 1, by omega⟩
      have e3 : ((t + 1 : Nat) : Int) - 1 = (t : Int) := by omega
      rw [e3]
      have A := hlz.getD t
      have L := limb_text A
      obtain ⟨ad, hp, hl⟩ := ints_at (h.ext hx) (i := (t : Int)) (by omega) (by omega)
      obtain rfl := Option.some.inj hp
      simp only [Int.toNat_natCast] at hl
      refine ⟨⟨by omega, by omega⟩, _, by simpa only [Int.toNat_natCast] using hl, ?_⟩
      refine Ret.at (impl_IntText_c (ht.ext hx) A.1 (by omega)) ?_
      rintro v w3 ⟨hv, y3⟩
      subst hv
      refine ⟨_, rfl, ?_⟩
      refine Ret.at (impl_Pad_c _ 9 (by omega) (by omega)) ?_
      rintro v w4 ⟨hv, y4⟩
      subst hv
      refine ⟨_, rfl, ?_, _, rfl, exW ⟨by omega, by omega⟩ ⟨⟨t, by omega, by omega, ?_, ?_, (hx.trans y3).trans y4⟩, ?_⟩⟩
      · have : (m - (t + 1)) * 9 <= m * 9 := Nat.mul_le_mul_right _ (by omega)
        omega
      · rw [ByteArray.size_append]
        have : m - t = (m - (t + 1)) + 1 := by omega
        rw [this]; omega
      · rw [htx, rev_take_succ (by omega), natR, ByteArray.append_assoc]
      · show ((t : Int) - 1 + 1).toNat < ((t : Int) + 1).toNat
        omega
    · have hs0 : s = 0 := by omega
      subst hs0
      refine ⟨?_, hx⟩
      rw [htx]
      simp [natR]
def dotT (t : ByteArray) (s : Int) : ByteArray := if 0 < s then (t.extract 0 (((t.size : Nat) : Int) - s).toNat ++ S [46]) ++ t.extract (((t.size : Nat) : Int) - s).toNat t.size else t
def decT : List D0 -> ByteArray
  | [.bool b, .ints z, .int s] => if decOk [.bool b, .ints z, .int s] then (if b then S [45] ++ dotT (padT (natT z) (s + 1)) s else dotT (padT (natT z) (s + 1)) s) else S []
  | _ => S []
theorem dotT_size (t : ByteArray) (s : Int) : (dotT t s).size <= t.size + 1 := by
  unfold dotT
  split
  · rw [ByteArray.size_append, ByteArray.size_append, ByteArray.size_extract, ByteArray.size_extract]
    show _ + 1 + _ <= _
    omega
  · omega
theorem decT_size (d : List D0) : (decT d).size <= 100 := by
  unfold decT
  split
  · rename_i b z s
    split
    · rename_i h
      obtain ⟨_, _, hz, hl, _, _⟩ := decOk_parts h
      have h1 := natT_size hz; have h3 := dotT_size (padT (natT z) (s + 1)) s
      have h2 : (padT (natT z) (s + 1)).size <= 60 := padT_le (by omega) (by omega)
      split
      · rw [ByteArray.size_append]
        show 1 + _ <= _
        omega
      · omega
    · show 0 <= _; omega
  · show 0 <= _; omega
theorem impl_DecText_c {w : World} {xs : List Value} {dx : List D0} (h : Reps w xs dx) (hc : dx.map D0.code = [.bool, .ints, .int]) (ht : TabP w) :
    Ret P n_impl_DecText [.agg ⟨xs⟩] w fun v w' => v = .string (decT dx) /\ Ext w w' := by
  have hr := h
  obtain ⟨a0, a1p, a1n, a1c, a1z, a2, rfl, rfl, ha⟩ := open_Dec h hc
  have hl := ha.1
  refine impl_DecText_ret ?_
  unfold impl_DecText
  intro r w1 hn1
  refine ⟨_, _, _, _, _, hn1.blk.loadA0 (by kernel_rfl), ?_⟩
  refine Ret.at (impl_DecOk_c (hr.ext hn1.ext) rfl) ?_
  rintro v w2 ⟨hv, y2⟩
  subst hv
  have X2 := hn1.ext.trans y2
  refine ⟨_, rfl, ifN (fun e => ⟨by simp only [decT, e, Bool.false_eq_true, if_false], X2⟩) (fun e => ?_)⟩
  obtain ⟨hio, hno, hz, hl6, hs0, hs1⟩ := decOk_parts e
  have D := Ext.drew w2
  have X3 := X2.trans D
  have b := hn1.blk.ext (y2.trans D)
  refine ⟨_, _, _, fun W hW => (b.ext hW).loadAt 1 rfl (by kernel_rfl) rfl, ?_⟩
  refine Ret.at (impl_natText_c (ha.ext X3) hz (by omega) (ht.ext X3)) ?_
  rintro v w4 ⟨hv, y4⟩
  subst hv
  have N1 := natT_size hz
  have N2 : a1z.length * 9 <= 6 * 9 := Nat.mul_le_mul_right _ hl6
  refine ⟨_, rfl, y4, _, fun W hW => (b.ext hW).loadAt 2 rfl (by kernel_rfl) rfl, exW ⟨by omega, by omega⟩ ?_⟩
  refine Ret.at (impl_Pad_c _ (a2 + 1) (by omega) (by omega)) ?_
  rintro v w5 ⟨hv, y5⟩
  subst hv
  have Y5 := y4.trans y5
  have N3 : (padT (natT a1z) (a2 + 1)).size <= 60 := padT_le (by omega) (by omega)
  have N4 := padT_ge (s := natT a1z) (n := a2 + 1) (by omega)
  have X5 := X3.trans Y5
  have b5 := b.ext Y5
  have fin : ∀ t W, Ext w5 W -> t.size <= 1000 -> t = dotT (padT (natT a1z) (a2 + 1)) a2 -> impl_DecText_j0 r t W fun v w' => v = .string (decT [.bool a0, .ints a1z, .int a2]) /\ Ext w w' := by
    intro t W hW hts ht
    unfold impl_DecText_j0
    refine ⟨_, (b5.ext hW).loadAt 0 rfl (by kernel_rfl) rfl, fun e0 => ?_, fun e0 => ?_⟩
    · refine ⟨?_, _, rfl, ?_⟩
      · show 1 + t.size <= 9223372036854775807
        omega
      unfold impl_DecText_j1
      refine ⟨?_, X5.trans hW⟩
      subst e0
      simp only [decT, e, if_true, ht]
    · unfold impl_DecText_j1
      refine ⟨?_, X5.trans hW⟩
      subst e0
      simp only [decT, e, if_true, ht, Bool.false_eq_true, if_false]
  refine ⟨_, rfl, _, b5.loadAt 2 rfl (by kernel_rfl) rfl, ifD (fun hpos => ?_) (fun hz0 => fin _ _ (Ext.refl _) (by omega) (by rw [dotT, if_neg hz0]))⟩
  refine ⟨_, b5.loadAt 2 rfl (by kernel_rfl) rfl, exW ⟨by omega, by omega⟩ ⟨⟨by omega, by omega⟩, ?_, _, rfl, ⟨by omega, by omega⟩, ?_, _, rfl, fin _ _ (Ext.drew _) ?_ (by rw [dotT, if_pos hpos])⟩⟩
  · rw [ByteArray.size_extract]
    show _ + 1 <= _
    omega
  · rw [ByteArray.size_append, ByteArray.size_extract, ByteArray.size_extract]
    show _ + 1 + _ <= _
    omega
  · rw [ByteArray.size_append, ByteArray.size_append, ByteArray.size_extract, ByteArray.size_extract]
    show _ + 1 + _ <= _
    omega
end Go.Proofs.YtbgokfhcgcoipaaGreatDoor
namespace Go.Proofs.YtbgokfhcgcoipaaGreatDoor
open Go Go.Proofs.YtbgokfhcgcoipaaGreatDoor.Sx
def isDig (c : UInt8) : Bool := decide (48 <= c.toNat) && decide (c.toNat <= 57)
def digV (l : List UInt8) : Nat := l.foldl (fun n c => n * 10 + (c.toNat - 48)) 0
theorem digV_fold : ∀ (l : List UInt8) (n : Nat), l.foldl (fun n c => n * 10 + (c.toNat - 48)) n = n * 10 ^ l.length + digV l
  | [], n => by simp [digV]
  | c :: r, n => by
    unfold digV
    rw [List.foldl_cons, List.foldl_cons, digV_fold r, digV_fold r (0 * 10 + _), List.length_cons, Nat.pow_succ]
    rw [Nat.zero_mul, Nat.zero_add, Nat.add_mul, Nat.mul_assoc, Nat.mul_comm 10, Nat.add_assoc]
theorem digV_append (a b : List UInt8) : digV (a ++ b) = digV a * 10 ^ b.length + digV b := by
  show List.foldl _ _ _ = _
  rw [List.foldl_append, digV_fold]; rfl
theorem digV_snoc (a : List UInt8) (c : UInt8) : digV (a ++ [c]) = digV a * 10 + (c.toNat - 48) := by
  rw [digV_append]; simp [digV]
theorem dig_le {c : UInt8} (h : isDig c = true) : 48 <= c.toNat /\ c.toNat <= 57 := by simpa [isDig] using h
theorem digV_lt : ∀ {l : List UInt8}, l.all isDig = true -> digV l < 10 ^ l.length
  | [], _ => by simp [digV]
  | c :: r, h => by
    simp only [List.all_cons, Bool.and_eq_true] at h
    have h1 := digV_lt h.2; have h2 := dig_le h.1
    have e : digV (c :: r) = digV [c] * 10 ^ r.length + digV r := digV_append [c] r
    have e2 : digV [c] = c.toNat - 48 := by simp [digV]
    rw [e, e2, List.length_cons, Nat.pow_succ]
    have : (c.toNat - 48) * 10 ^ r.length <= 9 * 10 ^ r.length := Nat.mul_le_mul_right _ (by omega)
    omega
theorem digB {u : Nat} (h : u < 10) : (UInt8.ofNat (48 + u)).toNat = 48 + u := by
  rw [UInt8.toNat_ofNat']; omega
theorem dec_ind {p : Nat -> Prop} (h1 : ∀ n, n < 10 -> p n) (h2 : ∀ n, ¬ n < 10 -> p (n / 10) -> p n) (n : Nat) : p n := by
  induction n using Nat.strongRecOn with
  | ind n ih =>
    by_cases h : n < 10
    · exact h1 n h
    · exact h2 n h (ih _ (by omega))
theorem digV_dec (n : Nat) : digV (Lib.decDigits n) = n := by
  induction n using dec_ind with
  | h1 n h => rw [decDigits_small h]; simp only [digV, List.foldl_cons, List.foldl_nil]; rw [digB h]; omega
  | h2 n h ih => rw [decDigits_big h, digV_snoc, ih, digB (by omega)]; omega
theorem isDigB {u : Nat} (h : u < 10) : isDig (UInt8.ofNat (48 + u)) = true := by
  simp only [isDig, Bool.and_eq_true, decide_eq_true_eq]; rw [digB h]; omega
theorem dec_all (n : Nat) : (Lib.decDigits n).all isDig = true := by
  induction n using dec_ind with
  | h1 n h => rw [decDigits_small h, List.all_cons, isDigB h]; rfl
  | h2 n h ih => rw [decDigits_big h, List.all_append, ih, List.all_cons, isDigB (by omega)]; rfl
theorem dec_head (n : Nat) : 0 < n -> ∃ c r, Lib.decDigits n = c :: r /\ c ≠ 48 := by
  induction n using dec_ind with
  | h1 n h =>
    intro hn
    refine ⟨_, _, decDigits_small h, fun hh => ?_⟩
    have := congrArg UInt8.toNat hh
    rw [digB h] at this
    have e : (48 : UInt8).toNat = 48 := rfl
    omega
  | h2 n h ih =>
    intro hn
    obtain ⟨c, r, h1, h2⟩ := ih (by omega)
    exact ⟨c, r ++ _, by rw [decDigits_big h, h1]; rfl, h2⟩
theorem dec_ne (n : Nat) : Lib.decDigits n ≠ [] := by
  by_cases h : n < 10
  · rw [decDigits_small h]; simp
  · rw [decDigits_big h]; simp
def fx : Nat -> Nat -> List UInt8
  | 0, _ => []
  | k + 1, r => fx k (r / 10) ++ [UInt8.ofNat (48 + r % 10)]
theorem dec_fx {q : Nat} (hq : 0 < q) : ∀ (k : Nat) {r : Nat}, r < 10 ^ k -> Lib.decDigits (q * 10 ^ k + r) = Lib.decDigits q ++ fx k r
  | 0, r, h => by simp at h; subst h; simp [fx]
  | k + 1, r, h => by
    rw [Nat.pow_succ] at h ⊢
    have e : q * (10 ^ k * 10) + r = 10 * (q * 10 ^ k) + r := by rw [<- Nat.mul_assoc, Nat.mul_comm]
    have hp : 0 < q * 10 ^ k := Nat.mul_pos hq (Nat.pow_pos (by decide))
    rw [decDigits_big (by omega), e]
    have e1 : (10 * (q * 10 ^ k) + r) / 10 = q * 10 ^ k + r / 10 := by omega
    have e2 : (10 * (q * 10 ^ k) + r) % 10 = r % 10 := by omega
    rw [e1, e2, dec_fx hq k (by omega), fx, List.append_assoc]
theorem fx_pad : ∀ (k : Nat) {r : Nat}, r < 10 ^ (k + 1) -> fx (k + 1) r = List.replicate (k + 1 - (Lib.decDigits r).length) 48 ++ Lib.decDigits r
  | 0, r, h => by
    have h : r < 10 := by simpa using h
    rw [decDigits_small h, fx, fx, Nat.mod_eq_of_lt h]; rfl
  | k + 1, r, h => by
    have h' : r / 10 < 10 ^ (k + 1) := by rw [Nat.pow_succ] at h; omega
    rw [fx, fx_pad k h']
    by_cases hr : r < 10
    · have e : r / 10 = 0 := by omega
      rw [e, decDigits_small (show 0 < 10 by decide), decDigits_small hr, Nat.mod_eq_of_lt hr]
      show List.replicate k 48 ++ [48] ++ _ = List.replicate (k + 1) 48 ++ _
      rw [List.replicate_succ']
    · rw [decDigits_big hr, List.length_append, List.append_assoc]
      show _ = List.replicate (k + 1 + 1 - (_ + 1)) 48 ++ _
      rw [Nat.add_sub_add_right]
theorem padT_list {n : Nat} {k : Nat} (hk : k <= 2000) : (padT (itxt n) (k : Int)).data.toList = List.replicate (k - (Lib.decDigits n).length) 48 ++ Lib.decDigits n := by
  have hs : (itxt n).size = (Lib.decDigits n).length := by rw [ba_size, itxt]
  unfold padT
  split
  · rename_i h
    have : k - (Lib.decDigits n).length = 0 := by omega
    rw [this]; rfl
  · have e : ((k : Int) - ((itxt n).size : Nat)).toNat = k - (Lib.decDigits n).length := by omega
    rw [e]
    simp [zeros, itxt]
theorem natR_append : ∀ (a b : List Int), natR (a ++ b) = natR a ++ natR b
  | [], b => by rw [List.nil_append, natR, ba_empty_append]
  | x :: a, b => by rw [List.cons_append, natR, natR, natR_append a b, ByteArray.append_assoc]
theorem natT_digs (n : Nat) : natT (digs n) = itxt n := by
  induction n using Nat.strongRecOn with
  | ind n ih =>
    by_cases h0 : n = 0
    · subst h0
      rw [digs_zero, itxt_small (by decide)]
      rfl
    · rw [digs, dif_neg h0]
      by_cases hb : n < 1000000000
      · have e1 : n / 1000000000 = 0 := by omega
        have e2 : n % 1000000000 = n := by omega
        rw [e1, e2, digs_zero]
        show itxt (n : Int).toNat ++ natR [] = _
        rw [natR, ba_append_empty, Int.toNat_natCast]
      · have hq : 0 < n / 1000000000 := by omega
        have ihq := ih (n / 1000000000) (by omega)
        cases e : (digs (n / 1000000000)).reverse with
        | nil =>
          have : digs (n / 1000000000) = [] := by simpa using e
          have h2 := val_digs (n / 1000000000)
          rw [this] at h2
          simp [val] at h2
          omega
        | cons x r =>
          have e3 : natT (digs (n / 1000000000)) = itxt x.toNat ++ natR r := by unfold natT; rw [e]
          have e4 : natT (((n % 1000000000 : Nat) : Int) :: digs (n / 1000000000)) = itxt x.toNat ++ natR (r ++ [((n % 1000000000 : Nat) : Int)]) := by
            unfold natT
            rw [List.reverse_cons, e]; rfl
          rw [e4, natR_append, <- ByteArray.append_assoc, <- e3, ihq, natR, natR, ba_append_empty, Int.toNat_natCast]
          apply ba_ext
          have h9 : n % 1000000000 < 10 ^ (8 + 1) := by omega
          have hp := padT_list (n := n % 1000000000) (k := 9) (by decide)
          have hf := fx_pad 8 h9
          have hd := dec_fx hq 9 h9
          have en : n / 1000000000 * 10 ^ 9 + n % 1000000000 = n := by
            have : (10 : Nat) ^ 9 = 1000000000 := by decide
            rw [this]; omega
          rw [en] at hd
          rw [ByteArray.data_append, Array.toList_append]
          show Lib.decDigits (n / 1000000000) ++ (padT (itxt (n % 1000000000)) 9).data.toList = Lib.decDigits n
          rw [hd, hf]
          exact congrArg _ hp
def strip : List UInt8 -> List UInt8
  | a :: c :: r => if a = 48 then strip (c :: r) else a :: c :: r
  | l => l
theorem strip_dec (n : Nat) : strip (Lib.decDigits n) = Lib.decDigits n := by
  by_cases h : n < 10
  · rw [decDigits_small h]; rfl
  · obtain ⟨c, r, h1, h2⟩ := dec_head n (by omega)
    rw [h1]
    cases r with
    | nil => rfl
    | cons d r => rw [strip, if_neg h2]
theorem strip_zeros : ∀ (k n : Nat), strip (List.replicate k 48 ++ Lib.decDigits n) = Lib.decDigits n
  | 0, n => strip_dec n
  | k + 1, n => by
    rw [List.replicate_succ, List.cons_append]
    cases e : List.replicate k 48 ++ Lib.decDigits n with
    | nil => exact absurd (List.append_eq_nil_iff.1 e).2 (dec_ne n)
    | cons c r =>
      rw [strip, if_pos rfl, <- e]
      exact strip_zeros k n
def scaleG (acc : Nat) : List UInt8 -> Nat
  | [] => acc
  | c :: r => scaleG (if c = 46 then r.length else acc) r
theorem scaleG_none : ∀ {l : List UInt8} {acc : Nat}, (∀ c ∈ l, c ≠ 46) -> scaleG acc l = acc
  | [], _, _ => rfl
  | c :: r, acc, h => by
    rw [scaleG, if_neg (h c (List.mem_cons_self ..))]
    exact scaleG_none (fun d hd => h d (List.mem_cons_of_mem _ hd))
theorem scaleG_dot : ∀ {a : List UInt8} {acc : Nat} {b : List UInt8}, (∀ c ∈ a, c ≠ 46) -> (∀ c ∈ b, c ≠ 46) -> scaleG acc (a ++ 46 :: b) = b.length
  | [], acc, b, _, h => by
    rw [List.nil_append, scaleG, if_pos rfl]
    exact scaleG_none h
  | c :: r, acc, b, h, hb => by
    rw [List.cons_append, scaleG, if_neg (h c (List.mem_cons_self ..))]
    exact scaleG_dot (fun d hd => h d (List.mem_cons_of_mem _ hd)) hb
end Go.Proofs.YtbgokfhcgcoipaaGreatDoor
namespace Go.Proofs.YtbgokfhcgcoipaaGreatDoor
open Go Go.Proofs.YtbgokfhcgcoipaaGreatDoor.Sx
def dsn (b : Bool) (m : Nat) (s : Int) : List D0 := [.bool b, .ints (digs m), .int s]
theorem sgn_digs {b : Bool} {m : Nat} (hb : b = true -> m ≠ 0) : (b && !(digs m).isEmpty) = b := by
  cases b with
  | false => rfl
  | true =>
    have := digs_pos_len.2 (hb rfl)
    cases hd : digs m with
    | nil => rw [hd] at this; simp at this
    | cons _ _ => rfl
end Go.Proofs.YtbgokfhcgcoipaaGreatDoor
namespace Go.Proofs.YtbgokfhcgcoipaaGreatDoor
open Go Go.Proofs.YtbgokfhcgcoipaaGreatDoor.Sx
def numOk (l : List UInt8) : Bool := !l.isEmpty && l.all isDig && decide (l.length <= 450) && !(decide (1 < l.length) && decide (l.head? = some 48))
def filt (l : List UInt8) : List UInt8 := l.filter (fun c => c != 46 && c != 45)
def cand (l : List UInt8) : List D0 := [.bool (decide (l.head? = some 45)), .ints (digs (digV (strip (filt l)))), .int (scaleG 0 l : Nat)]
def body (D : List UInt8) (s : Nat) : List UInt8 := if s = 0 then D else D.take (D.length - s) ++ 46 :: D.drop (D.length - s)
def zeroDec : List D0 := [.bool false, .ints [], .int 0]
def tdOk (s : ByteArray) : Bool := decOk (cand s.data.toList) && decide (decT (cand s.data.toList) = s)
theorem dig_ne {c : UInt8} (h : isDig c = true) : c ≠ 46 /\ c ≠ 45 := by
  have := dig_le h
  refine ⟨fun hh => ?_, fun hh => ?_⟩ <;> subst hh
  · exact absurd this.1 (by decide)
  · exact absurd this.1 (by decide)
theorem filt_dig {l : List UInt8} (h : l.all isDig = true) : filt l = l := by
  unfold filt
  rw [List.filter_eq_self]
  intro c hc
  have := dig_ne (List.all_eq_true.1 h c hc)
  simp [this.1, this.2]
theorem filt_append (a b : List UInt8) : filt (a ++ b) = filt a ++ filt b := List.filter_append ..
theorem filt_body {D : List UInt8} {s : Nat} (h : D.all isDig = true) : filt (body D s) = D := by
  unfold body
  split
  · exact filt_dig h
  · have h1 : (D.take (D.length - s)).all isDig = true := List.all_eq_true.2 fun c hc => List.all_eq_true.1 h c (List.mem_of_mem_take hc)
    have h2 : (D.drop (D.length - s)).all isDig = true := List.all_eq_true.2 fun c hc => List.all_eq_true.1 h c (List.mem_of_mem_drop hc)
    rw [filt_append, filt_dig h1]
    show _ ++ filt (D.drop (D.length - s)) = D
    rw [filt_dig h2, List.take_append_drop]
theorem scale_body {D : List UInt8} {s : Nat} {acc : Nat} (h : D.all isDig = true) (hs : s < D.length) : scaleG acc (body D s) = if s = 0 then acc else s := by
  have h0 : ∀ c ∈ D, c ≠ 46 := fun c hc => (dig_ne (List.all_eq_true.1 h c hc)).1
  unfold body
  split
  · exact scaleG_none h0
  · rw [scaleG_dot (fun c hc => h0 c (List.mem_of_mem_take hc)) (fun c hc => h0 c (List.mem_of_mem_drop hc)), List.length_drop]
    omega
theorem body_head {D : List UInt8} {s : Nat} (h : D.all isDig = true) (hs : s < D.length) : ∃ c r, body D s = c :: r /\ isDig c = true := by
  cases D with
  | nil => simp at hs
  | cons c r =>
    have hc : isDig c = true := by simp only [List.all_cons, Bool.and_eq_true] at h; exact h.1
    unfold body
    split
    · exact ⟨c, r, rfl, hc⟩
    · have : (c :: r).length - s = ((c :: r).length - s - 1) + 1 := by omega
      rw [this, List.take_succ_cons]
      exact ⟨c, _, rfl, hc⟩
theorem body_len {D : List UInt8} {s : Nat} : (body D s).length <= D.length + 1 := by
  unfold body
  split
  · omega
  · rw [List.length_append, List.length_cons, List.length_take, List.length_drop]; omega
theorem decT_shape {b : Bool} {z : List Int} {s : Int} (h : decOk [.bool b, .ints z, .int s] = true) :
    ∃ (m t k : Nat), z = digs m /\ s = t /\ t <= 30 /\ (b = true -> m ≠ 0) /\ (digs m).length <= 6 /\ (List.replicate k 48 ++ Lib.decDigits m).all isDig = true /\ t < (List.replicate k (48 : UInt8) ++ Lib.decDigits m).length /\ (List.replicate k (48 : UInt8) ++ Lib.decDigits m).length <= 90 /\
      (decT [.bool b, .ints z, .int s]).data.toList = (if b then [45] else []) ++ body (List.replicate k 48 ++ Lib.decDigits m) t := by
  obtain ⟨hi, hn, hl, hz, h0, h30⟩ := decOk_parts h
  have hcz : digs (val z).toNat = z := digs_val (natOk_spec.1 hn).1
  obtain ⟨m, hm⟩ : ∃ m, (val z).toNat = m := ⟨_, rfl⟩
  rw [hm] at hcz
  obtain ⟨t, ht⟩ : ∃ t : Nat, s = t := ⟨s.toNat, by omega⟩
  subst ht
  subst hcz
  have hb : b = true -> m ≠ 0 := by
    intro hb hm0
    subst hb; subst hm0
    rw [digs_zero] at hi
    simp [intOk] at hi
  have e9 : ((t : Int) + 1) = ((t + 1 : Nat) : Int) := rfl
  have hD := padT_list (n := m) (k := t + 1) (by omega)
  obtain ⟨k, hk⟩ : ∃ k, t + 1 - (Lib.decDigits m).length = k := ⟨_, rfl⟩
  rw [hk] at hD
  have hne : 0 < (Lib.decDigits m).length := List.length_pos_iff.2 (dec_ne m)
  have hlen : (List.replicate k (48 : UInt8) ++ Lib.decDigits m).length = k + (Lib.decDigits m).length := by simp
  have hall : (List.replicate k 48 ++ Lib.decDigits m).all isDig = true := by
    rw [List.all_append, dec_all, Bool.and_true, List.all_eq_true]
    intro c hc
    rw [(List.mem_replicate.1 hc).2]; rfl
  have hsz : (Lib.decDigits m).length <= 55 := by
    have h1 := natT_size hl
    rw [natT_digs, ba_size, itxt] at h1
    have h1 : (Lib.decDigits m).length <= _ := h1
    omega
  refine ⟨m, t, k, rfl, rfl, by omega, hb, hz, hall, by rw [hlen]; omega, by rw [hlen]; omega, ?_⟩
  obtain ⟨D, hDD⟩ : ∃ D, List.replicate k 48 ++ Lib.decDigits m = D := ⟨_, rfl⟩
  rw [hDD] at hD hlen ⊢
  have hpl : (padT (itxt m) ((t : Int) + 1)).size = D.length := by rw [ba_size, e9, hD]
  have hdot : (dotT (padT (itxt m) ((t : Int) + 1)) (t : Int)).data.toList = body D t := by
    unfold dotT body
    by_cases ht0 : t = 0
    · rw [if_neg (by omega), if_pos ht0, e9, hD]
    · have e5 : ((((D.length : Nat) : Int)) - (t : Int)).toNat = D.length - t := by omega
      rw [if_pos (by omega), if_neg ht0, hpl, e5]
      simp only [ByteArray.data_append, Array.toList_append, ByteArray.data_extract, Array.toList_extract, e9, hD]
      rw [hD, List.extract_eq_take_drop, List.extract_eq_take_drop, List.drop_zero, Nat.sub_zero, List.append_assoc, List.take_of_length_le (l := D.drop _) (by rw [List.length_drop]; omega)]
      rfl
  show (if decOk [.bool b, .ints (digs m), .int (t : Int)] then (if b then S [45] ++ dotT (padT (natT (digs m)) ((t : Int) + 1)) t else dotT (padT (natT (digs m)) ((t : Int) + 1)) t) else S []).data.toList = _
  rw [h, if_pos rfl, natT_digs]
  cases b
  · rw [if_neg (by decide), if_neg (by decide)]
    exact hdot
  · rw [if_pos rfl, if_pos rfl, ByteArray.data_append, Array.toList_append, hdot]
theorem numOk_dec {m : Nat} (h : (Lib.decDigits m).length <= 450) : numOk (Lib.decDigits m) = true := by
  unfold numOk
  rw [dec_all, decide_eq_true h]
  have h1 : (Lib.decDigits m).isEmpty = false := by
    cases e : Lib.decDigits m with
    | nil => exact absurd e (dec_ne m)
    | cons _ _ => rfl
  rw [h1]
  by_cases hm : m < 10
  · rw [decDigits_small hm]; rfl
  · obtain ⟨c, r, e, hc⟩ := dec_head m (by omega)
    rw [e]
    simp [hc]
theorem filt_sign {b : Bool} {l : List UInt8} : filt ((if b then [45] else []) ++ l) = filt l := by
  rw [filt_append]; cases b <;> rfl
theorem scale_sign {b : Bool} {l : List UInt8} : scaleG 0 ((if b then [45] else []) ++ l) = scaleG 0 l := by cases b <;> rfl
theorem cand_decT {d : List D0} (hc : d.map D0.code = [.bool, .ints, .int]) (h : decOk d = true) : cand (decT d).data.toList = d /\ numOk (strip (filt (decT d).data.toList)) = true := by
  match d, hc with
  | [.bool b, .ints z, .int s], _ =>
    obtain ⟨m, t, k, rfl, rfl, ht, hb, hm, hall, hlt, hle, e⟩ := decT_shape h
    have hf : filt (decT [.bool b, .ints (digs m), .int (t : Int)]).data.toList = List.replicate k 48 ++ Lib.decDigits m := by
      rw [e, filt_sign, filt_body hall]
    have hsc : scaleG 0 (decT [.bool b, .ints (digs m), .int (t : Int)]).data.toList = t := by
      rw [e, scale_sign, scale_body hall hlt]
      split
      · omega
      · rfl
    have hhd : decide ((decT [.bool b, .ints (digs m), .int (t : Int)]).data.toList.head? = some 45) = b := by
      rw [e]
      obtain ⟨c, r, e2, hc2⟩ := body_head hall hlt
      rw [e2]
      cases b
      · have := (dig_ne hc2).2
        simp [this]
      · rfl
    refine ⟨?_, ?_⟩
    · unfold cand
      rw [hf, hsc, hhd, strip_zeros, digV_dec]
    · rw [hf, strip_zeros]
      refine numOk_dec ?_
      rw [List.length_append] at hle
      omega
end Go.Proofs.YtbgokfhcgcoipaaGreatDoor
namespace Go.Proofs.YtbgokfhcgcoipaaGreatDoor
open Go Go.Proofs.YtbgokfhcgcoipaaGreatDoor.Sx
def cuts (c : UInt8) (acc : List UInt8) : List UInt8 -> List (List UInt8)
  | [] => [acc]
  | x :: r => if x = c then acc :: cuts c [] r else cuts c (acc ++ [x]) r
theorem cuts_none {c : UInt8} : ∀ {l acc : List UInt8}, (∀ x ∈ l, x ≠ c) -> cuts c acc l = [acc ++ l]
  | [], acc, _ => by rw [cuts, List.append_nil]
  | x :: r, acc, h => by
    rw [cuts, if_neg (h x (List.mem_cons_self ..)), cuts_none (fun y hy => h y (List.mem_cons_of_mem _ hy)), List.append_assoc]
    rfl
theorem cuts_dot {c : UInt8} : ∀ {a acc b : List UInt8}, (∀ x ∈ a, x ≠ c) -> cuts c acc (a ++ c :: b) = (acc ++ a) :: cuts c [] b
  | [], acc, b, _ => by rw [List.nil_append, cuts, if_pos rfl, List.append_nil]
  | x :: r, acc, b, h => by
    rw [List.cons_append, cuts, if_neg (h x (List.mem_cons_self ..)), cuts_dot (fun y hy => h y (List.mem_cons_of_mem _ hy)), List.append_assoc]
    rfl
theorem cuts_flat {c : UInt8} : ∀ (l acc : List UInt8), (cuts c acc l).flatten = acc ++ l.filter (fun x => x != c)
  | [], acc => by simp [cuts]
  | x :: r, acc => by
    rw [cuts]
    by_cases h : x = c
    · rw [if_pos h, List.flatten_cons, cuts_flat r]
      simp [h]
    · rw [if_neg h, cuts_flat r]
      simp [h]
end Go.Proofs.YtbgokfhcgcoipaaGreatDoor
namespace Go.Proofs.YtbgokfhcgcoipaaGreatDoor
open Go Go.Proofs.YtbgokfhcgcoipaaGreatDoor.Sx
def digS (l : List UInt8) : Bool := !l.isEmpty && l.all isDig
theorem ba_get {s : ByteArray} {i : Nat} (h : i < s.data.toList.length) : s[((i : Nat) : Int).toNat]? = some (s.data.toList[i]'h) := by
  rw [Int.toNat_natCast]
  exact getElem?_pos s i h
theorem take_drop_snoc {l : List UInt8} {a i : Nat} (h : a <= i) (hi : i < l.length) : (l.take (i + 1)).drop a = (l.take i).drop a ++ [l[i]'hi] := by
  rw [List.take_succ_eq_append_getElem hi, List.drop_append_of_le_length (by rw [List.length_take]; omega)]
theorem take_drop_all {l : List UInt8} {a : Nat} (i : Nat) (h : l.all isDig = true) : ((l.take i).drop a).all isDig = true :=
  List.all_eq_true.2 fun c hc => List.all_eq_true.1 h c (List.mem_of_mem_take (List.mem_of_mem_drop hc))
theorem take_drop_lt {l : List UInt8} {a i : Nat} (h : l.all isDig = true) (hi : i <= a + 9) : digV ((l.take i).drop a) < 1000000000 := by
  have h1 := digV_lt (take_drop_all (a := a) i h)
  have h2 : 10 ^ ((l.take i).drop a).length <= 10 ^ 9 := Nat.pow_le_pow_right (by decide) (by rw [List.length_drop, List.length_take]; omega)
  have h3 : (10 : Nat) ^ 9 = 1000000000 := by decide
  omega
theorem drop_chunk {l : List UInt8} {a i : Nat} (h : a <= i) : l.drop a = (l.take i).drop a ++ l.drop i := by
  have h1 := List.take_append_drop (i - a) (l.drop a)
  rw [List.drop_drop] at h1
  rw [<- h1, List.take_drop]
  congr 2 <;> (congr 1; omega)
theorem chunk_val {l : List UInt8} {a i k : Nat} {o : List Int} (h : a <= i) (hi : i + 9 * k = l.length) (ho : o.length = k) (hv : val o = (digV (l.drop i) : Nat)) :
    val (o ++ [((digV ((l.take i).drop a) : Nat) : Int)]) = (digV (l.drop a) : Nat) := by
  have hd : digV (l.drop a) = digV ((l.take i).drop a) * 10 ^ (l.drop i).length + digV (l.drop i) := by
    rw [<- digV_append, <- drop_chunk h]
  rw [val_snoc, hv, ho, hd]
  have e : (10 : Nat) ^ (l.drop i).length = 1000000000 ^ k := by
    rw [List.length_drop, show l.length - i = 9 * k from by omega, Nat.pow_mul]
  rw [e]
  rw [Int.natCast_add, Int.natCast_mul, Int.natCast_pow, Int.add_comm, Int.mul_comm]
  rfl
theorem exW8 {e : Int} {Q : Int -> Prop} (h : 0 <= e /\ e < 256) (hq : Q e) : ∃ z, z = IntKind.wrap .u8 e /\ Q z := by
  have wu : ∀ z : Int, 0 <= z -> z < 256 -> IntKind.wrap .u8 z = z := fun z h0 h1 => by
    simp only [IntKind.wrap, IntKind.bits, IntKind.signed]
    simp
    omega
  exact ⟨e, (wu e h.1 h.2).symm, hq⟩
theorem digI (c : UInt8) : decide ((48 : Int) <= ((c.toNat : Nat) : Int) /\ ((c.toNat : Nat) : Int) <= 57) = isDig c := by
  rw [Bool.eq_iff_iff]
  simp only [isDig, Bool.and_eq_true, decide_eq_true_eq]
  omega
theorem ne_empty (s : ByteArray) : decide (s ≠ S []) = !s.data.toList.isEmpty := by
  rw [Bool.eq_iff_iff]
  simp only [decide_eq_true_eq, Bool.not_eq_true']
  constructor
  · intro h
    cases e : s.data.toList with
    | nil => exact absurd (ba_ext (e.trans rfl)) h
    | cons _ _ => rfl
  · intro h hs
    subst hs
    exact absurd h (by decide)
theorem impl_IsDigits_c (s : ByteArray) (hs : s.size <= 9000000000000000000) (w : World) : Ret P n_impl_IsDigits [.string s] w fun v w' => v = .bool (digS s.data.toList) /\ w' = w := by
  obtain ⟨l, hl⟩ : ∃ l, s.data.toList = l := ⟨_, rfl⟩
  have hsl : s.size = l.length := by rw [ba_size, hl]
  refine impl_IsDigits_ret ?_
  unfold impl_IsDigits
  refine ⟨fun i wr => ∃ j : Nat, i = j /\ j <= l.length /\ wr = w /\ (l.take j).all isDig = true, fun i _ => l.length - i.toNat, ⟨0, rfl, by omega, rfl, rfl⟩, ?_⟩
  intro junk wr i ⟨j, hij, hj, hw, hall⟩
  subst hij; subst hw
  refine ifD (fun hlt => ?_) (fun hge => ⟨?_, rfl⟩)
  · have hjl : j < l.length := by omega
    refine ⟨by omega, l[j]'hjl, by subst hl; exact ba_get hjl, ?_⟩
    refine Ret.at (impl_isDigit_c _ wr) ?_
    rintro v w1 ⟨hv, hw⟩
    subst hv; subst hw
    rw [digI]
    refine ⟨_, rfl, ifN (fun hno => ⟨?_, rfl⟩) (fun hyes => exW ⟨by omega, by omega⟩ ⟨⟨j + 1, rfl, by omega, rfl, ?_⟩, by show l.length - ((j : Int) + 1).toNat < l.length - (j : Int).toNat; omega⟩)⟩
    · rw [hl]
      have : l.all isDig = false := by
        rw [Bool.eq_false_iff]
        intro ha
        rw [List.all_eq_true.1 ha _ (List.getElem_mem hjl)] at hno
        cases hno
      unfold digS
      rw [this, Bool.and_false]
    · rw [List.take_succ_eq_append_getElem hjl, List.all_append, hall, List.all_cons, hyes]; simp
  · rw [List.take_of_length_le (by omega)] at hall
    rw [ne_empty, hl]
    unfold digS
    rw [hall, Bool.and_true]
theorem impl_TextNat_o {w : World} (s : ByteArray) (hs : s.size <= 9000000000000000000) : Ret P n_impl_TextNat [.string s] w fun v w' => ∃ p n c, v = .tuple #[.slice p n c, .bool (numOk s.data.toList)] /\ Sx.Own w' w.heap.size T_int 1 p n c ((if numOk s.data.toList then digs (digV s.data.toList) else []).map (Value.int .i64)) /\ Ext w w' := by
  obtain ⟨l, hl⟩ : ∃ l, s.data.toList = l := ⟨_, rfl⟩
  have hsl : s.size = l.length := by rw [ba_size, hl]
  refine impl_TextNat_ret ?_
  unfold impl_TextNat
  refine Ret.at (impl_IsDigits_c s hs w) ?_
  rintro v w1 ⟨hv, hw⟩
  subst hv; subst hw
  have no : numOk l = false -> ∃ p n c, Value.tuple #[.slice none 0 0, .bool false] = .tuple #[.slice p n c, .bool (numOk s.data.toList)] /\ Sx.Own w1 w1.heap.size T_int 1 p n c ((if numOk s.data.toList then digs (digV s.data.toList) else []).map (Value.int .i64)) /\ Ext w1 w1 := fun h => by
    rw [hl, h]
    exact ⟨none, 0, 0, rfl, Own.nil _ _ _ _, Ext.refl _⟩
  have go : numOk l = true -> impl_TextNat_j0 s w1 fun v w' => ∃ p n c, v = .tuple #[.slice p n c, .bool (numOk s.data.toList)] /\ Sx.Own w' w1.heap.size T_int 1 p n c ((if numOk s.data.toList then digs (digV s.data.toList) else []).map (Value.int .i64)) /\ Ext w1 w' := by
    intro h
    have hall : l.all isDig = true := by simp only [numOk, Bool.and_eq_true] at h; exact h.1.1.2
    have hlen : l.length <= 450 := by simp only [numOk, Bool.and_eq_true, decide_eq_true_eq] at h; exact h.1.2
    rw [hl, h]
    unfold impl_TextNat_j0
    intro r wa hna
    refine ⟨fun p on c e wr => ∃ o : List Int, e = (l.length : Int) - 9 * on /\ e <= l.length /\ -9 < e /\ Own wr w1.heap.size T_int 1 p on c (o.map (Value.int .i64)) /\ Ext w1 wr /\ Limbs o /\ o.length = on /\ val o = (digV (l.drop e.toNat) : Nat), fun _ _ _ e _ => (e + 9).toNat, ⟨[], by omega, by omega, by omega, Own.fresh hna, hna.ext, Limbs.nil, rfl, ?_⟩, ?_⟩
    · rw [hsl, Int.toNat_natCast, List.drop_length]; rfl
    intro junk wr op on oc e ⟨o, he, hel, he9, hown, hx, hlo, hol, hv⟩
    have hon := hown.1
    refine ifD (fun hlt => ?_) (fun hge => ?_)
    · obtain ⟨i, hi⟩ : ∃ i : Nat, e = i := ⟨e.toNat, by omega⟩
      subst hi
      obtain ⟨a, ha⟩ : ∃ a : Nat, ((i : Int) - 9).toNat = a := ⟨_, rfl⟩
      have hm : (if (i : Int) - 9 > 0 then (i : Int) - 9 else 0) = (a : Int) := by split <;> omega
      refine exW ⟨by omega, by omega⟩ ⟨_, rfl, ⟨by omega, by omega⟩, ⟨by rw [hm]; omega, by rw [hm]; omega⟩, ?_⟩
      rw [hm, Int.toNat_natCast, Int.toNat_natCast]
      obtain ⟨u, hu⟩ : ∃ u, s.extract a i = u := ⟨_, rfl⟩
      have hul : u.data.toList = (l.take i).drop a := by
        rw [<- hu, <- hl, ByteArray.data_extract, Array.toList_extract, List.extract_eq_take_drop, List.drop_take]
      have hus : u.size = i - a := by rw [ba_size, hul, List.length_drop, List.length_take]; omega
      rw [hu]
      refine ⟨_, _, _, _, Lib.run_convert_string_bytes wr _ _ T_uint8 u (u := .string) (by kernel_rfl) (by kernel_rfl) (by kernel_rfl), ?_⟩
      have xb : Ext wr (Lib.bytesWorld wr T_uint8 u) := Joins.below_bytesWorld _ wr T_uint8 u (Nat.le_refl _)
      have cellAt : ∀ j, j < u.size -> (Lib.bytesWorld wr T_uint8 u).cell? ⟨wr.heap.size, j, none⟩ = some (.int .u8 (u.data.toList.getD j 0).toNat) := fun j hj => Lib.bytesWorld_cell wr T_uint8 u j hj
      obtain ⟨wb, hwb⟩ : ∃ wb, Lib.bytesWorld wr T_uint8 u = wb := ⟨_, rfl⟩
      rw [hwb] at xb cellAt ⊢
      refine ⟨fun n k W => ∃ j : Nat, k = j /\ j <= i - a /\ W = wb /\ n = (digV ((l.take (a + j)).drop a) : Nat), fun _ k _ => i - a - k.toNat, ⟨0, rfl, by omega, rfl, by rw [Nat.add_zero, List.drop_take_self]; rfl⟩, ?_⟩
      intro junk2 W n k ⟨j, hkj, hji, hW, hn⟩
      subst hkj; subst hW; subst hn
      refine ifD (fun hlt2 => ?_) (fun hge2 => ?_)
      · have hjl : a + j < l.length := by omega
        have hb := take_drop_lt (a := a) (i := a + j) hall (by omega)
        have hb2 := take_drop_lt (a := a) (i := a + j + 1) hall (by omega)
        rw [take_drop_snoc (by omega) hjl, digV_snoc] at hb2
        have hd := dig_le (List.all_eq_true.1 hall _ (List.getElem_mem hjl))
        have hg : u.data.toList.getD j 0 = l[a + j]'hjl := by
          rw [hul, List.getD_eq_getElem?_getD, List.getElem?_drop, List.getElem?_take_of_lt (by omega), List.getElem?_eq_getElem hjl]; rfl
        have hc := cellAt j (by omega)
        rw [hg] at hc
        have hld : Loads P T_uint8 ((⟨wr.heap.size, 0, none⟩ : Addr).add ((j : Int).toNat * 1)) (.int .u8 (((l[a + j]'hjl).toNat : Nat) : Int)) W := by
          rw [Int.toNat_natCast, Nat.mul_one, addr_add, Nat.zero_add]
          exact loads1 (by kernel_rfl) hc
        refine ⟨⟨by omega, by omega⟩, (((l[a + j]'hjl).toNat : Nat) : Int), hld, exW ⟨by omega, by omega⟩ (exW8 ⟨by omega, by omega⟩ (exW ⟨by omega, by omega⟩ (exW ⟨by omega, by omega⟩ (exW ⟨by omega, by omega⟩ ⟨⟨j + 1, rfl, by omega, rfl, ?_⟩, ?_⟩))))⟩
        · rw [<- Nat.add_assoc, take_drop_snoc (by omega) hjl, digV_snoc]; omega
        · show i - a - ((j : Int) + 1).toNat < i - a - (j : Int).toNat
          omega
      · have hji2 : a + j = i := by omega
        rw [hji2]
        intro r1 w2 hn2
        have hb := take_drop_lt (a := a) (i := i) hall (by omega)
        obtain ⟨p', c', w3, g1, g2, g3⟩ := Own.push (hown.ext xb) (Nat.le_trans hx.le xb.le) hn2 (by omega)
        refine ⟨_, _, _, _, g1, exW ⟨by omega, by omega⟩ ⟨⟨o ++ [((digV ((l.take i).drop a) : Nat) : Int)], by omega, by omega, by omega, g2, g3 w1 (hx.trans xb) (Nat.le_refl _), hlo.snoc ⟨by omega, by omega⟩, by simp [hol], ?_⟩, by show ((i : Int) - 9 + 9).toNat < ((i : Int) + 9).toNat; omega⟩⟩
        rw [ha]
        rw [Int.toNat_natCast] at hv
        exact chunk_val (by omega) (by omega) hol hv
    · have e0 : e.toNat = 0 := by omega
      rw [e0, List.drop_zero] at hv
      refine Ret.at (impl_trim_c hown.ints) ?_
      rintro v w2 ⟨hv2, hw2, hr⟩
      subst hv2; subst hw2
      refine ⟨_, _, _, rfl, _, _, _, rfl, ?_, hx⟩
      rw [if_pos rfl]
      have he := trimL_eq hlo
      rw [hv, Int.toNat_natCast] at he
      rw [<- he]
      have hle := trimL_len o
      have := hown.sub (m := (trimL o).length) (by omega)
      rwa [<- trimL_prefix] at this
  have hh : ∀ (h1 : 0 < l.length), l.head? = some (l[0]'h1) := fun h1 => by cases l with
    | nil => cases h1
    | cons _ _ => rfl
  rw [hl] at no go ⊢
  refine ⟨_, rfl, ifN (fun hd => ifT (ifT (no ?_))) (fun hd => ifD (fun h450 => ifT (no ?_)) (fun h450 => ?_))⟩
  · unfold digS at hd
    unfold numOk
    rw [hd]; rfl
  · unfold numOk
    rw [decide_eq_false (show ¬ l.length <= 450 by omega)]
    simp
  · have h0 : 0 < l.length := by
      cases l with
      | nil => cases hd
      | cons _ _ => exact Nat.succ_pos _
    unfold digS at hd
    refine ⟨by omega, l[0]'h0, by subst hl; exact ba_get (i := 0) h0, ifD (fun h48 => ifD (fun h1 => no ?_) (fun h1 => go ?_)) (fun h48 => ifF (go ?_))⟩
    · have : l[0]'h0 = 48 := UInt8.toNat_inj.1 (by show _ = 48; omega)
      unfold numOk
      rw [hh h0, this, decide_eq_true (show 1 < l.length by omega)]
      simp
    · unfold numOk
      rw [hd, decide_eq_true (show l.length <= 450 by omega), decide_eq_false (show ¬ 1 < l.length by omega)]
      rfl
    · unfold numOk
      have : l[0]'h0 ≠ 48 := fun hc => h48 (by rw [hc]; rfl)
      rw [hd, hh h0, decide_eq_true (show l.length <= 450 by omega)]
      simp [this]
end Go.Proofs.YtbgokfhcgcoipaaGreatDoor
namespace Go.Proofs.YtbgokfhcgcoipaaGreatDoor
open Go Go.Proofs.YtbgokfhcgcoipaaGreatDoor.Sx
theorem strip_one {l : List UInt8} (h : l.length <= 1) : strip l = l := by
  match l, h with
  | [], _ => rfl
  | [_], _ => rfl
theorem byte_eq {c d : UInt8} : (((c.toNat : Nat) : Int) = ((d.toNat : Nat) : Int)) ↔ c = d := by
  rw [<- UInt8.toNat_inj]; omega
end Go.Proofs.YtbgokfhcgcoipaaGreatDoor
namespace Go.Proofs.YtbgokfhcgcoipaaGreatDoor
open Go Go.Proofs.YtbgokfhcgcoipaaGreatDoor.Sx
def dgI (l : List UInt8) : List UInt8 := if l.head? = some 45 then l.drop 1 else l
def partsI (l : List UInt8) : List (List UInt8) := cuts 46 [] (dgI l)
def scI (l : List UInt8) : Nat := if (partsI l).length = 2 then ((partsI l).getD 1 []).length else 0
def whI (l : List UInt8) : List UInt8 := strip ((dgI l).filter (fun x => x != 46))
def candI (l : List UInt8) : List D0 := [.bool (decide (l.head? = some 45) && !(digs (digV (whI l))).isEmpty), .ints (digs (digV (whI l))), .int (scI l : Nat)]
def okI (l : List UInt8) : Bool := decide ((partsI l).length <= 2) && decide ((dgI l).length <= 100) && numOk (whI l)
theorem filter_dig {D : List UInt8} (h : D.all isDig = true) : D.filter (fun x => x != 46) = D := by
  rw [List.filter_eq_self]
  intro c hc
  have := dig_ne (List.all_eq_true.1 h c hc)
  simp [this.1]
theorem filter_body {D : List UInt8} {s : Nat} (h : D.all isDig = true) : (body D s).filter (fun x => x != 46) = D := by
  unfold body
  split
  · exact filter_dig h
  · have h1 : (D.take (D.length - s)).all isDig = true := List.all_eq_true.2 fun c hc => List.all_eq_true.1 h c (List.mem_of_mem_take hc)
    have h2 : (D.drop (D.length - s)).all isDig = true := List.all_eq_true.2 fun c hc => List.all_eq_true.1 h c (List.mem_of_mem_drop hc)
    rw [List.filter_append, filter_dig h1]
    show _ ++ (D.drop (D.length - s)).filter (fun x => x != 46) = D
    rw [filter_dig h2, List.take_append_drop]
theorem cuts_body {D : List UInt8} {s : Nat} (h : D.all isDig = true) (hs : s < D.length) : (cuts 46 [] (body D s)).length <= 2 /\ (if (cuts 46 [] (body D s)).length = 2 then ((cuts 46 [] (body D s)).getD 1 []).length else 0) = s := by
  have h0 : ∀ c ∈ D, c ≠ 46 := fun c hc => (dig_ne (List.all_eq_true.1 h c hc)).1
  unfold body
  split
  · rename_i hz
    rw [cuts_none h0]
    exact ⟨by simp, by simp [hz]⟩
  · rw [cuts_dot (fun c hc => h0 c (List.mem_of_mem_take hc)), cuts_none (fun c hc => h0 c (List.mem_of_mem_drop hc))]
    refine ⟨by simp, ?_⟩
    simp
    omega
theorem readI_yes {s : ByteArray} (h : tdOk s = true) : okI s.data.toList = true /\ candI s.data.toList = cand s.data.toList /\ decT (candI s.data.toList) = s := by
  obtain ⟨l, hl⟩ : ∃ l, s.data.toList = l := ⟨_, rfl⟩
  unfold tdOk at h
  rw [hl] at h ⊢
  simp only [Bool.and_eq_true, decide_eq_true_eq] at h
  obtain ⟨hok, hT⟩ := h
  obtain ⟨m, t, k, hz, ht, ht30, hb, hm, hall, hlt, hle, e⟩ := decT_shape (b := decide (l.head? = some 45)) (z := digs (digV (strip (filt l)))) (s := (scaleG 0 l : Nat)) hok
  have e2 : l = (if decide (l.head? = some 45) = true then [45] else []) ++ body (List.replicate k 48 ++ Lib.decDigits m) t := by
    rw [<- e]
    show l = (decT (cand l)).data.toList
    rw [hT, hl]
  have hd : dgI l = body (List.replicate k 48 ++ Lib.decDigits m) t := by
    unfold dgI
    by_cases h45 : l.head? = some 45
    · rw [if_pos h45]
      rw [decide_eq_true h45, if_pos rfl] at e2
      rw [e2]; rfl
    · rw [if_neg h45]
      rw [decide_eq_false h45, if_neg (by decide), List.nil_append] at e2
      exact e2
  obtain ⟨c1, c2⟩ := cuts_body hall hlt
  have hw : whI l = Lib.decDigits m := by
    unfold whI
    rw [hd, filter_body hall, strip_zeros]
  have hc : candI l = cand l := by
    unfold candI cand scI partsI
    rw [hw, hd, c2, digV_dec, hz, ht, sgn_digs hb]
  refine ⟨?_, hc, by rw [hc]; exact hT⟩
  unfold okI partsI
  rw [hw, hd, decide_eq_true c1, decide_eq_true (Nat.le_trans (body_len) (by omega)), numOk_dec (by rw [List.length_append] at hle; omega)]
  rfl
theorem readI_ok {s : ByteArray} (h1 : okI s.data.toList = true) (h2 : decT (candI s.data.toList) = s) : tdOk s = true := by
  obtain ⟨l, hl⟩ : ∃ l, s.data.toList = l := ⟨_, rfl⟩
  rw [hl] at h1 h2
  have hd : decOk (candI l) = true := by
    cases e : decOk (candI l) with
    | true => rfl
    | false =>
      have h3 : decT (candI l) = S [] := by
        show (if decOk (candI l) then _ else S []) = _
        rw [e]
        rfl
      rw [h2] at h3
      have h4 : l = [] := by rw [<- hl, h3]
      subst h4
      exact absurd h1 (by decide)
  have h3 := (cand_decT (d := candI l) rfl hd).1
  rw [h2, hl] at h3
  unfold tdOk
  rw [hl, h3, hd, decide_eq_true h2]; rfl
end Go.Proofs.YtbgokfhcgcoipaaGreatDoor
namespace Go.Proofs.YtbgokfhcgcoipaaGreatDoor
open Go Go.Proofs.YtbgokfhcgcoipaaGreatDoor.Sx
def StrsR (w : World) (p : Option Addr) (n c : Nat) (l : List ByteArray) : Prop :=
 l.length = n /\ n <= c /\ c <= 9223372036854775807 /\ (0 < n -> ∃ b off, p = some ⟨b, off, none⟩ /\ Seg w b off (l.map Value.string))
theorem StrsR.ext {w w' : World} {p : Option Addr} {n c : Nat} {l : List ByteArray} (h : StrsR w p n c l) (he : Ext w w') : StrsR w' p n c l :=
  ⟨h.1, h.2.1, h.2.2.1, fun hn => let ⟨b, off, hp, hs⟩ := h.2.2.2 hn; ⟨b, off, hp, hs.ext he⟩⟩
theorem StrsR.at {P : Program} {w : World} {p : Option Addr} {n c k : Nat} {l : List ByteArray} (h : StrsR w p n c l) {t : TypeId} (ht : cellT P t = true) (hk : k < n) :
    ∃ a, p = some a /\ Loads P t (a.add (k * 1)) (.string (l[k]'(by rw [h.1]; exact hk))) w := by
  obtain ⟨b, off, hp, hs⟩ := h.2.2.2 (by omega)
  refine ⟨_, hp, ?_⟩
  rw [Nat.mul_one]
  exact hs.load ht (by simp [List.getElem?_eq_getElem (by rw [h.1]; exact hk : k < l.length)])
theorem own_strs {w : World} {base : Nat} {e : TypeId} {p : Option Addr} {n c : Nat} {l : List ByteArray} (h : Own w base e 1 p n c (l.map Value.string)) : StrsR w p n c l :=
  ⟨by simpa using h.len, h.le, h.capLe, fun hn => let ⟨b, hp, _, hs⟩ := h.seg hn; ⟨b, 0, hp, hs⟩⟩
def joinT (by' : ByteArray) (l : List ByteArray) : ByteArray := ⟨(Lib.join (l.map (·.data.toList)) by'.data.toList).toArray⟩
theorem joinT_nil (b : ByteArray) : joinT b [] = ByteArray.empty := rfl
theorem joinT_one (b x : ByteArray) : joinT b [x] = x := ba_ext (by simp [joinT, Lib.join_one])
theorem joinT_snoc {b x : ByteArray} : ∀ {l : List ByteArray}, l ≠ [] -> joinT b (l ++ [x]) = (joinT b l ++ b) ++ x
  | [], h => absurd rfl h
  | y :: r, _ => ba_ext (by simp [joinT, Lib.join_cons, Lib.joinTail])
theorem joinT_size {b : ByteArray} {k : Nat} : ∀ {l : List ByteArray}, (∀ x ∈ l, x.size <= k) -> (joinT b l).size <= l.length * (k + b.size) := by
  intro l
  have key : ∀ (n : Nat) (l : List ByteArray), l.length = n -> (∀ x ∈ l, x.size <= k) -> (joinT b l).size <= l.length * (k + b.size) := by
    intro n
    induction n with
    | zero =>
      intro l hl _
      rw [List.eq_nil_of_length_eq_zero hl, joinT_nil]
      show 0 <= _
      omega
    | succ n ih =>
      intro l hl hx
      have hne : l ≠ [] := by intro e; rw [e] at hl; simp at hl
      have hl2 := List.dropLast_concat_getLast hne
      have hd : l.dropLast.length = n := by simp [hl]
      have h1 := ih l.dropLast hd fun x hx' => hx x ((List.dropLast_sublist l).subset hx')
      have h2 := hx _ (List.getLast_mem hne)
      by_cases h0 : l.dropLast = []
      · rw [h0, List.nil_append] at hl2
        rw [<- hl2, joinT_one]
        simp only [List.length_cons, List.length_nil]
        omega
      · rw [<- hl2, joinT_snoc h0, ByteArray.size_append, ByteArray.size_append, List.length_append, List.length_singleton, hd]
        rw [hd] at h1
        rw [Nat.succ_mul]
        omega
  exact key _ l rfl
theorem X156 : Go.Proofs.Builder.Extra P ren156 where
  sizeBuilder := by kernel_rfl
  liesBuilder := by kernel_rfl
  t5 := lays105.t5
  a5 := lays105.a5
  z5 := lays105.z5
  v5 := lays105.v5
  infoByte := by kernel_rfl
  cellsByte := by kernel_rfl
  sizeByte := by kernel_rfl
  neB5 := by decide
theorem impl_Join_c {w : World} {p : Option Addr} {n c : Nat} {l : List ByteArray} (h : StrsR w p n c l) (b : ByteArray) {k : Nat} (hk : ∀ x ∈ l, x.size <= k) (hb : n * (k + b.size) <= 140737488355328) (hn : n <= 140737488355328) :
    Ret P n_impl_Join [.slice p n c, .string b] w fun v w' => v = .string (joinT b l) /\ Ext w w' := by
  refine impl_Join_ret ?_
  unfold impl_Join
  have hz := h.1; have hcap := h.2.1
  have hsz := joinT_size (b := b) hk
  rw [hz] at hsz
  have hlen : (Lib.join (l.map (·.data.toList)) b.data.toList).length <= 140737488355328 := by
    have : (joinT b l).size = (Lib.join (l.map (·.data.toList)) b.data.toList).length := by simp [joinT, ByteArray.size]
    omega
  rcases Nat.eq_zero_or_pos n with h0 | h0
  · subst h0
    have : l = [] := List.eq_nil_of_length_eq_zero hz
    subst this
    refine (Any.strings_Join_none lays156 X156 p c b w).mono ?_
    rintro e w' ⟨rfl, rfl⟩
    exact ⟨_, rfl, rfl, Ext.refl _⟩
  · obtain ⟨r, o, rfl, hs⟩ := h.2.2.2 h0
    have hcells : ∀ (j : Nat) x, l[j]? = some x -> w.cell? ⟨r, o + j, none⟩ = some (.string x) := fun j x hx => hs j _ (by simp [hx])
    have hbk : r < w.heap.size := World.block_lt_of_cell? w _ (hcells 0 _ (List.getElem?_eq_getElem (by omega)))
    have := Any.strings_Join lays156 X156 r o c l b w hcells hbk (by omega) (by omega) hlen
    rw [hz] at this
    refine this.mono ?_
    rintro e w' ⟨rfl, hx⟩
    exact ⟨_, rfl, rfl, hx⟩
end Go.Proofs.YtbgokfhcgcoipaaGreatDoor
namespace Go.Proofs.YtbgokfhcgcoipaaGreatDoor
open Go Go.Shelf
def ren137 : Ren := ⟨fun x => match x with | 137 => 160 | 217 => 220 | 266 => 269 | n => n, fun x => match x with | 9 => 9 | 5 => 5 | 3 => 3 | n => n, fun x => x⟩
theorem lays137 : Lays.n137 Tryz.prog ren137 := {
  mixed := by kernel_rfl,
  f137 := Tryz.func160.trans (congrArg some (by kernel_rfl)),
  f217 := Tryz.func220.trans (congrArg some (by kernel_rfl)),
  f266 := Tryz.func269.trans (congrArg some (by kernel_rfl)),
  t3 := Tryz.underlying3,
  a3 := Tryz.isAgg3,
  z3 := Tryz.sizeOf3,
  v3 := Tryz.zeroValue3,
  t5 := Tryz.underlying5,
  a5 := Tryz.isAgg5,
  z5 := Tryz.sizeOf5,
  v5 := Tryz.zeroValue5,
  t9 := Tryz.underlying9,
  a9 := Tryz.isAgg9,
  z9 := Tryz.sizeOf9,
  v9 := Tryz.zeroValue9 }
end Go.Proofs.YtbgokfhcgcoipaaGreatDoor
namespace Go.Proofs.YtbgokfhcgcoipaaGreatDoor
open Go Go.Proofs.YtbgokfhcgcoipaaGreatDoor.Sx
theorem sliceT_cut : sliceT P T_s_string T_string (.string ByteArray.empty) 1 16 := ⟨by kernel_rfl, by kernel_rfl, rfl, by decide⟩
theorem index_one (c x : UInt8) : decide ((0 : Int) <= Lib.indexByte [c] x) = decide (x = c) := by
  unfold Lib.indexByte
  by_cases h : c = x
  · subst h; simp
  · have h2 : x ≠ c := fun e => h e.symm
    simp [h, h2, Lib.indexByte]
theorem impl_CutAt_c {w : World} (s : ByteArray) (c : UInt8) (hs : s.size <= 1048576) : Ret P n_impl_CutAt [.string s, .string ⟨#[c]⟩] w fun v w' => ∃ p n k ps, v = .slice p n k /\ StrsR w' p n k ps /\ ps.map (·.data.toList) = cuts c [] s.data.toList /\ Ext w w' := by
  obtain ⟨l, hl⟩ : ∃ l, s.data.toList = l := ⟨_, rfl⟩
  have hsl : s.size = l.length := by rw [ba_size, hl]
  refine impl_CutAt_ret ?_
  unfold impl_CutAt
  intro r w1 hn1
  obtain ⟨Inv, hI⟩ : ∃ I : Option Addr -> Nat -> Nat -> Int -> Int -> World -> Prop, ∀ p n k a i W, I p n k a i W ↔ ∃ (j b : Nat) (ps : List ByteArray), i = j /\ j <= l.length /\ a = b /\ b <= j /\ n <= j /\ Own W w.heap.size T_string 1 p n k (ps.map Value.string) /\ Ext w W /\ ps.map (·.data.toList) ++ cuts c ((l.take j).drop b) (l.drop j) = cuts c [] l := ⟨_, fun _ _ _ _ _ _ => Iff.rfl⟩
  obtain ⟨mu, hmu⟩ : ∃ m : Option Addr -> Nat -> Nat -> Int -> Int -> World -> Nat, ∀ p n k a i W, m p n k a i W = l.length - i.toNat := ⟨fun _ _ _ _ i _ => l.length - i.toNat, fun _ _ _ _ _ _ => rfl⟩
  have e1 := hn1.r_eq
  refine ⟨Inv, mu, (hI _ _ _ _ _ _).2 ⟨0, 0, [], rfl, by omega, rfl, by omega, by omega, Own.of_blk0 hn1.blk (by omega) (by simp) (by decide), hn1.ext, rfl⟩, ?_⟩
  intro junk wr p n k a i hinv
  obtain ⟨j, b, ps, hij, hj, hab, hbj, hnj, ho, hx, hcut⟩ := (hI _ _ _ _ _ _).1 hinv
  subst hij; subst hab
  have lx := hx.le
  have ext : ∀ (b2 j2 : Nat), (s.extract b2 j2).data.toList = (l.take j2).drop b2 := fun b2 j2 => by
    rw [ByteArray.data_extract, Array.toList_extract, hl, List.extract_eq_take_drop, List.drop_take]
  refine ifD (fun hlt => ?_) (fun hge => ?_)
  · have hjl : j < l.length := by omega
    have hdr : l.drop j = l[j]'hjl :: l.drop (j + 1) := List.drop_eq_getElem_cons hjl
    rw [hdr, cuts] at hcut
    refine ⟨by omega, l[j]'hjl, by subst hl; exact ba_get hjl, ?_⟩
    refine (Any.strings_IndexByte lays137 ⟨#[c]⟩ _ wr).mono ?_
    rintro e w2 ⟨rfl, rfl⟩
    have i1 := index_one c (l[j]'hjl)
    have next : ∀ (p2 : Option Addr) (n2 k2 b2 : Nat) (ps2 : List ByteArray) (W : World), b2 <= j + 1 -> n2 <= j + 1 -> Own W w.heap.size T_string 1 p2 n2 k2 (ps2.map Value.string) -> Ext w W -> ps2.map (·.data.toList) ++ cuts c ((l.take (j + 1)).drop b2) (l.drop (j + 1)) = cuts c [] l -> ∀ R, impl_CutAt_j0 w2 Inv mu p n k (b : Int) (j : Int) p2 n2 k2 (b2 : Int) W R := by
      intro p2 n2 k2 b2 ps2 W h1 h2 h3 h4 h5 R
      unfold impl_CutAt_j0
      exact exW ⟨by omega, by omega⟩ ⟨(hI _ _ _ _ _ _).2 ⟨j + 1, b2, ps2, rfl, by omega, rfl, h1, h2, h3, h4, h5⟩, by rw [hmu, hmu]; omega⟩
    have h8 : (((l[j]'hjl).toNat : Nat) : Int).toNat.toUInt8 = l[j]'hjl := by rw [Int.toNat_natCast]; exact UInt8.ofNat_toNat
    rw [h8]
    refine ⟨_, rfl, fun hy => ?_, fun hn => ?_⟩
    · have hc : l[j]'hjl = c := of_decide_eq_true (i1.symm.trans hy)
      rw [if_pos hc] at hcut
      refine ⟨⟨by omega, by omega⟩, ⟨by omega, by omega⟩, ?_⟩
      intro r1 w3 hn3
      have l3 := hn3.ext.le
      obtain ⟨p', k', w4, ha, ho4, ch, _⟩ := (ho.ext hn3.ext).push1 (P := P) sliceT_cut (by omega) hn3.blk rfl (by simp [Value.oneCell']) (by omega) (by decide)
      refine ⟨p', _, k', w4, ha, exW ⟨by omega, by omega⟩ ?_⟩
      have := next p' (n + 1) k' (j + 1) (ps ++ [s.extract b j]) w4 (by omega) (by omega) (by rw [List.map_append]; exact ho4) ((hx.trans hn3.ext).chg ch fun q hq => (World.ownsRow.lt ho q (by cases p <;> simp_all [Value.ownBlock])).1) (by
        rw [List.map_append, List.append_assoc, <- hcut, List.drop_take_self]
        show _ ++ ([(s.extract b j).data.toList] ++ _) = _
        rw [ext]; rfl)
      exact this _
    · have hc : l[j]'hjl ≠ c := of_decide_eq_false (i1.symm.trans hn)
      rw [if_neg hc, <- take_drop_snoc hbj hjl] at hcut
      exact next p n k b ps _ (by omega) (by omega) ho hx hcut _
  · have hjn : j = l.length := by omega
    rw [hjn, List.drop_length, cuts] at hcut
    refine ⟨⟨by omega, by omega⟩, ?_⟩
    intro r1 w3 hn3
    have l3 := hn3.ext.le
    obtain ⟨p', k', w4, ha, ho4, ch, _⟩ := (ho.ext hn3.ext).push1 (P := P) sliceT_cut (by omega) hn3.blk rfl (by simp [Value.oneCell']) (by omega) (by decide)
    refine ⟨p', _, k', w4, ha, p', n + 1, k', ps ++ [s.extract b s.size], rfl, own_strs (base := w.heap.size) (e := T_string) (by rw [List.map_append]; exact ho4), ?_, (hx.trans hn3.ext).chg ch fun q hq => (World.ownsRow.lt ho q (by cases p <;> simp_all [Value.ownBlock])).1⟩
    rw [List.map_append, hl, <- hcut]
    show _ ++ [(s.extract b s.size).data.toList] = _
    rw [ext, hsl]
end Go.Proofs.YtbgokfhcgcoipaaGreatDoor
namespace Go.Proofs.YtbgokfhcgcoipaaGreatDoor
open Go Go.Proofs.YtbgokfhcgcoipaaGreatDoor.Sx
theorem own_dec0 (W : World) (B : Nat) : Owns W B [.bool false, .slice none 0 0, .int .i64 0] zeroDec [] :=
  Owns.append (Owns.bool _ _ false) (Owns.append (Owns.ints (zs := []) (Own.nil W B T_int 1)) (Owns.int _ _ 0))
theorem okI_eq (l : List UInt8) : okI l = (decide ((partsI l).length <= 2) && decide ((dgI l).length <= 100) && numOk (whI l)) := rfl
theorem le_sum_of_mem {x : Nat} : ∀ {l : List Nat}, x ∈ l -> x <= l.sum
  | a :: r, h => by
    rw [List.sum_cons]
    rcases List.mem_cons.1 h with e | e
    · omega
    · have := le_sum_of_mem e; omega
theorem joinTail_nil : ∀ l : List (List UInt8), Lib.joinTail [] l = l.flatten
  | [] => rfl
  | a :: r => by simp [Lib.joinTail, joinTail_nil r]
theorem joinT_flat : ∀ ps : List ByteArray, (joinT (S []) ps).data.toList = (ps.map (·.data.toList)).flatten
  | [] => rfl
  | a :: r => by
    have := joinTail_nil (r.map (·.data.toList))
    simp [joinT, Lib.join_cons, this]
theorem impl_TextDec_o {w : World} (s : ByteArray) (hs : s.size <= 1048576) (hp : TabP w) : Ret P n_impl_TextDec [.string s] w fun v w' => ∃ vs f, v = .tuple #[.agg ⟨vs⟩, .bool (tdOk s)] /\ Owns w' w.heap.size vs (if tdOk s then cand s.data.toList else zeroDec) f /\ f.Nodup /\ Ext w w' := by
  obtain ⟨l, hl⟩ : ∃ l, s.data.toList = l := ⟨_, rfl⟩
  have hsl : s.size = l.length := by rw [ba_size, hl]
  refine impl_TextDec_ret ?_
  unfold impl_TextDec
  intro r w1 hn1
  have e1 := hn1.r_eq; have z1 := hn1.size
  have zero : ∀ W, Ext w W -> Blk W r T_impl_Dec [.bool false, .slice none 0 0, .int .i64 0] -> tdOk s = false -> ∃ wv_7, Stores P T_impl_Dec ⟨r, 0, none⟩ (.agg #[(.bool false), (.slice none 0 0), (.int .i64 0)]) W wv_7 /\
      ∃ (r0 : Bool) (r1_p : Option Addr) (r1_n : Nat) (r1_c : Nat) (r2 : Int), Loads P T_impl_Dec ⟨r, 0, none⟩ (.agg #[(.bool r0), (.slice r1_p r1_n r1_c), (.int .i64 r2)]) wv_7 /\ ∃ vs f, (Value.tuple #[(.agg #[(.bool r0), (.slice r1_p r1_n r1_c), (.int .i64 r2)]), (.bool false)]) = .tuple #[.agg ⟨vs⟩, .bool (tdOk s)] /\ Owns wv_7 w.heap.size vs (if tdOk s then cand s.data.toList else zeroDec) f /\ f.Nodup /\ Ext w wv_7 := by
    intro W hW hb hno
    obtain ⟨w6, st6, hb6, ch, sz⟩ := hb.storeA0 (P := P) (t := T_impl_Dec) (xs := [.bool false, .slice none 0 0, .int .i64 0]) (by kernel_rfl) rfl (by simp [Value.oneCell'])
    refine ⟨w6, st6, _, _, _, _, _, hb6.loadA0 (by kernel_rfl), [.bool false, .slice none 0 0, .int .i64 0], [], by rw [hno], ?_, List.nodup_nil, hW.chg ch (by simp; omega)⟩
    rw [hno]
    exact own_dec0 _ _
  -- the digits behind the sign are cut, joined, read
  have main : ∀ (dg : ByteArray), dg.data.toList = dgI l -> impl_TextDec_j1 s r (decide (l.head? = some 45)) dg w1 fun v w' => ∃ vs f, v = .tuple #[.agg ⟨vs⟩, .bool (tdOk s)] /\ Owns w' w.heap.size vs (if tdOk s then cand s.data.toList else zeroDec) f /\ f.Nodup /\ Ext w w' := by
    intro dg hdg
    have hdl : dg.size <= s.size := by
      rw [ba_size, hdg, hsl]
      unfold dgI
      split
      · rw [List.length_drop]; omega
      · omega
    unfold impl_TextDec_j1
    refine Ret.at (impl_CutAt_c dg 46 (by omega)) ?_
    rintro v w2 ⟨p, n, k, ps, hv, hps, hcut, y2⟩
    subst hv
    have X2 := hn1.ext.trans y2
    rw [hdg] at hcut
    have hn := hps.1
    have hpl : ps.length = (partsI l).length := by
      unfold partsI
      rw [<- hcut, List.length_map]
    have no : okI l = false -> tdOk s = false := fun h => by
      cases htd : tdOk s with
      | false => rfl
      | true =>
        have := (readI_yes htd).1
        rw [hl, h] at this
        cases this
    have l2 := y2.le
    refine ⟨_, _, _, rfl, ?_⟩
    refine ifD (fun h2 => ifT (zero w2 X2 (hn1.blk.ext y2) (no (by rw [okI_eq, decide_eq_false (show ¬ (partsI l).length <= 2 by omega)]; simp)))) (fun h2 => ifD (fun h100 => zero w2 X2 (hn1.blk.ext y2) (no (by rw [okI_eq, decide_eq_false (show ¬ (dgI l).length <= 100 by rw [<- hdg, <- ba_size]; omega)]; simp))) (fun h100 => ?_))
    have hparts : decide ((partsI l).length <= 2) = true := decide_eq_true (by omega)
    have hdgl : (dgI l).length <= 100 := by rw [<- hdg, <- ba_size]; omega
    have hlen : decide ((dgI l).length <= 100) = true := decide_eq_true hdgl
    have hsize : ∀ x ∈ ps, x.size <= 100 := fun x hx => by
      have h1 : x.data.toList ∈ cuts 46 [] (dgI l) := by rw [<- hcut]; exact List.mem_map.2 ⟨x, hx, rfl⟩
      have h3 := cuts_flat (c := 46) (dgI l) []
      have h4 : x.data.toList.length <= (cuts 46 [] (dgI l)).flatten.length := by
        rw [List.length_flatten]
        exact le_sum_of_mem (List.mem_map.2 ⟨_, h1, rfl⟩)
      rw [h3, List.nil_append] at h4
      have h5 := List.length_filter_le (fun x => x != 46) (dgI l)
      rw [ba_size]; omega
    have main3 : ∀ sc : Int, sc = ((scI l : Nat) : Int) -> impl_TextDec_j3 s r (decide (l.head? = some 45)) p n k sc w2 fun v w' => ∃ vs f, v = .tuple #[.agg ⟨vs⟩, .bool (tdOk s)] /\ Owns w' w.heap.size vs (if tdOk s then cand s.data.toList else zeroDec) f /\ f.Nodup /\ Ext w w' := by
      intro sc hsc
      subst hsc
      unfold impl_TextDec_j3
      refine Ret.at (impl_Join_c hps (S []) (k := 100) hsize (by have : (S []).size = 0 := rfl; rw [this]; omega) (by omega)) ?_
      rintro v w3 ⟨hv, y3⟩
      subst hv
      have X3 := X2.trans y3
      have ly3 := y3.le; have lz1 := hn1.blk.lt
      have hjd : (joinT (S []) ps).data.toList = (dgI l).filter (fun x => x != 46) := by
        rw [joinT_flat, hcut, cuts_flat, List.nil_append]
      have hjl : (joinT (S []) ps).size <= 100 := by
        rw [ba_size, hjd]
        have := List.length_filter_le (fun x => x != 46) (dgI l)
        omega
      refine ⟨_, rfl, fun dg2 W => strip dg2.data.toList = whI l /\ dg2.size <= 100 /\ W = w3, fun dg2 _ => dg2.size, ⟨by rw [hjd]; rfl, hjl, rfl⟩, ?_⟩
      intro junk W whole ⟨hst, hsz, hW⟩
      rw [hW]
      have hgl : whole.size = whole.data.toList.length := ba_size whole
      refine ifD (fun h1 => ?_) (fun h1 => ifF ?_)
      · have h0 : 0 < whole.data.toList.length := by omega
        obtain ⟨a, b, r2, hlist⟩ : ∃ a b r2, whole.data.toList = a :: b :: r2 := by
          match h : whole.data.toList, h0, hgl with
          | [], h0, _ => cases h0
          | [a], _, hgl => simp at hgl; omega
          | a :: b :: r2, _, _ => exact ⟨a, b, r2, rfl⟩
        refine ⟨by omega, whole.data.toList[0]'h0, ba_get (i := 0) h0, ifD (fun h48 => ?_) (fun h48 => ?_)⟩
        · have hc : whole.data.toList[0]'h0 = 48 := byte_eq.1 h48
          have hex : (whole.extract 1 whole.size).data.toList = whole.data.toList.drop 1 := by
            rw [ByteArray.data_extract, Array.toList_extract, List.extract_eq_take_drop, List.take_of_length_le (by rw [List.length_drop]; omega)]
          have hes : (whole.extract 1 whole.size).size = whole.size - 1 := by rw [ba_size, hex, List.length_drop, hgl]
          refine ⟨⟨by omega, by omega⟩, ⟨?_, by omega, rfl⟩, by show (whole.extract 1 whole.size).size < whole.size; omega⟩
          rw [hex, <- hst]
          have ha : a = 48 := by rw [<- hc]; simp [hlist]
          rw [hlist, ha, strip, if_pos rfl]
          rfl
        have hdone : whole.data.toList = whI l := by
          rw [<- hst]
          have ha : a ≠ 48 := fun ha => h48 (by
            have : whole.data.toList[0]'h0 = 48 := by simp [hlist, ha]
            rw [this]; rfl)
          rw [hlist, strip, if_neg ha]
        refine Ret.at (impl_TextNat_o whole (by omega)) ?_
        rintro v w5 ⟨pm, nm, cm, hv, him, y5⟩
        subst hv
        rw [hdone] at him ⊢
        refine ⟨_, _, _, _, rfl, ?_⟩
        refine Ret.at (impl_signed_c (neg := decide (l.head? = some 45)) him.ints.1) ?_
        rintro v w6 ⟨hv, y6⟩
        subst hv
        refine ⟨_, _, _, _, rfl, ?_⟩
        intro r1 w7 hn7
        have e7 := hn7.r_eq
        obtain ⟨w8, st8, hb8, y8⟩ := hn7.fill (P := P) (t := T_impl_Dec) (xs := [.bool (decide (l.head? = some 45) && !(if numOk (whI l) then digs (digV (whI l)) else []).isEmpty), .slice pm nm cm, .int .i64 ((scI l : Nat) : Int)]) (by simp [Value.oneCell']) (by kernel_rfl) rfl
        have Y8 := (y5.trans y6).trans y8
        have X8 := X3.trans Y8
        have l5 := y5.le; have l6 := y6.le; have l3 := X3.le
        refine ⟨w8, st8, ifN (fun hno => ifT (zero w8 X8 (hn1.blk.ext ((y2.trans y3).trans Y8)) (no (by rw [okI_eq, hno, Bool.and_false])))) (fun hyes => ?_)⟩
        rw [hyes, if_pos rfl] at him hb8
        have hrep : Reps w8 [.bool (decide (l.head? = some 45) && !(digs (digV (whI l))).isEmpty), .slice pm nm cm, .int .i64 ((scI l : Nat) : Int)] (candI l) := ⟨rfl, ⟨_, _, _, rfl, him.ints.ext (y6.trans y8)⟩, rfl, trivial⟩
        have hokI : okI l = true := by rw [okI_eq, hparts, hlen, hyes]; rfl
        refine ⟨_, _, _, _, _, hb8.loadA0 (by kernel_rfl), ?_⟩
        refine Ret.at (impl_DecText_c hrep rfl (hp.ext X8)) ?_
        rintro v w9 ⟨hv, y9⟩
        subst hv
        have X9 := X8.trans y9
        refine ⟨_, rfl, ifD (fun hne => zero w9 X9 (hn1.blk.ext (((y2.trans y3).trans Y8).trans y9)) ?_) (fun heq => ?_)⟩
        · cases htd : tdOk s with
          | false => rfl
          | true =>
            have := (readI_yes htd).2.2
            rw [hl] at this
            exact absurd this hne
        · have heq : decT (candI l) = s := by simpa using heq
          have hyes2 : tdOk s = true := readI_ok (by rw [hl]; exact hokI) (by rw [hl]; exact heq)
          have hcand := (readI_yes hyes2).2.1
          rw [hl] at hcand
          obtain ⟨w10, st10, hb10, ch10, sz10⟩ := (hn1.blk.ext (((y2.trans y3).trans Y8).trans y9)).storeA0 (P := P) (t := T_impl_Dec) (xs := [.bool (decide (l.head? = some 45) && !(digs (digV (whI l))).isEmpty), .slice pm nm cm, .int .i64 ((scI l : Nat) : Int)]) (by kernel_rfl) rfl (by simp [Value.oneCell'])
          refine ⟨_, _, _, _, _, (hb8.ext y9).loadA0 (by kernel_rfl), w10, st10, _, _, _, _, _, hb10.loadA0 (by kernel_rfl), [.bool (decide (l.head? = some 45) && !(digs (digV (whI l))).isEmpty), .slice pm nm cm, .int .i64 ((scI l : Nat) : Int)], (pm.map (·.block)).toList, by rw [hyes2], ?_, nodup_opt pm, X9.chg ch10 (by simp; omega)⟩
          rw [hyes2, if_pos rfl, hl, <- hcand]
          have ho1 := ((him.ext (y6.trans y8)).ext y9).mono (base' := r + 1) (by omega)
          have ho2 : Owns w9 (r + 1) [.bool (decide (l.head? = some 45) && !(digs (digV (whI l))).isEmpty), .slice pm nm cm, .int .i64 ((scI l : Nat) : Int)] (candI l) ((pm.map (·.block)).toList) := by
            have := Owns.append (Owns.int2 (b := decide (l.head? = some 45) && !(digs (digV (whI l))).isEmpty) ho1) (Owns.int w9 (r + 1) ((scI l : Nat) : Int))
            rwa [List.append_nil] at this
          exact (ho2.chg1 ch10 (by omega)).mono (by omega)
      · have hdone : whole.data.toList = whI l := by rw [<- hst, strip_one (by omega)]
        refine Ret.at (impl_TextNat_o whole (by omega)) ?_
        rintro v w5 ⟨pm, nm, cm, hv, him, y5⟩
        subst hv
        rw [hdone] at him ⊢
        refine ⟨_, _, _, _, rfl, ?_⟩
        refine Ret.at (impl_signed_c (neg := decide (l.head? = some 45)) him.ints.1) ?_
        rintro v w6 ⟨hv, y6⟩
        subst hv
        refine ⟨_, _, _, _, rfl, ?_⟩
        intro r1 w7 hn7
        have e7 := hn7.r_eq
        obtain ⟨w8, st8, hb8, y8⟩ := hn7.fill (P := P) (t := T_impl_Dec) (xs := [.bool (decide (l.head? = some 45) && !(if numOk (whI l) then digs (digV (whI l)) else []).isEmpty), .slice pm nm cm, .int .i64 ((scI l : Nat) : Int)]) (by simp [Value.oneCell']) (by kernel_rfl) rfl
        have Y8 := (y5.trans y6).trans y8
        have X8 := X3.trans Y8
        have l5 := y5.le; have l6 := y6.le; have l3 := X3.le
        refine ⟨w8, st8, ifN (fun hno => ifT (zero w8 X8 (hn1.blk.ext ((y2.trans y3).trans Y8)) (no (by rw [okI_eq, hno, Bool.and_false])))) (fun hyes => ?_)⟩
        rw [hyes, if_pos rfl] at him hb8
        have hrep : Reps w8 [.bool (decide (l.head? = some 45) && !(digs (digV (whI l))).isEmpty), .slice pm nm cm, .int .i64 ((scI l : Nat) : Int)] (candI l) := ⟨rfl, ⟨_, _, _, rfl, him.ints.ext (y6.trans y8)⟩, rfl, trivial⟩
        have hokI : okI l = true := by rw [okI_eq, hparts, hlen, hyes]; rfl
        refine ⟨_, _, _, _, _, hb8.loadA0 (by kernel_rfl), ?_⟩
        refine Ret.at (impl_DecText_c hrep rfl (hp.ext X8)) ?_
        rintro v w9 ⟨hv, y9⟩
        subst hv
        have X9 := X8.trans y9
        refine ⟨_, rfl, ifD (fun hne => zero w9 X9 (hn1.blk.ext (((y2.trans y3).trans Y8).trans y9)) ?_) (fun heq => ?_)⟩
        · cases htd : tdOk s with
          | false => rfl
          | true =>
            have := (readI_yes htd).2.2
            rw [hl] at this
            exact absurd this hne
        · have heq : decT (candI l) = s := by simpa using heq
          have hyes2 : tdOk s = true := readI_ok (by rw [hl]; exact hokI) (by rw [hl]; exact heq)
          have hcand := (readI_yes hyes2).2.1
          rw [hl] at hcand
          obtain ⟨w10, st10, hb10, ch10, sz10⟩ := (hn1.blk.ext (((y2.trans y3).trans Y8).trans y9)).storeA0 (P := P) (t := T_impl_Dec) (xs := [.bool (decide (l.head? = some 45) && !(digs (digV (whI l))).isEmpty), .slice pm nm cm, .int .i64 ((scI l : Nat) : Int)]) (by kernel_rfl) rfl (by simp [Value.oneCell'])
          refine ⟨_, _, _, _, _, (hb8.ext y9).loadA0 (by kernel_rfl), w10, st10, _, _, _, _, _, hb10.loadA0 (by kernel_rfl), [.bool (decide (l.head? = some 45) && !(digs (digV (whI l))).isEmpty), .slice pm nm cm, .int .i64 ((scI l : Nat) : Int)], (pm.map (·.block)).toList, by rw [hyes2], ?_, nodup_opt pm, X9.chg ch10 (by simp; omega)⟩
          rw [hyes2, if_pos rfl, hl, <- hcand]
          have ho1 := ((him.ext (y6.trans y8)).ext y9).mono (base' := r + 1) (by omega)
          have ho2 : Owns w9 (r + 1) [.bool (decide (l.head? = some 45) && !(digs (digV (whI l))).isEmpty), .slice pm nm cm, .int .i64 ((scI l : Nat) : Int)] (candI l) ((pm.map (·.block)).toList) := by
            have := Owns.append (Owns.int2 (b := decide (l.head? = some 45) && !(digs (digV (whI l))).isEmpty) ho1) (Owns.int w9 (r + 1) ((scI l : Nat) : Int))
            rwa [List.append_nil] at this
          exact (ho2.chg1 ch10 (by omega)).mono (by omega)
    unfold impl_TextDec_j2
    refine ifD (fun he2 => ?_) (fun hne2 => main3 0 ?_)
    · obtain ⟨a, hpa, hla⟩ := hps.at (P := P) (t := T_string) (k := 1) (by kernel_rfl) (by omega)
      subst hpa
      refine ⟨⟨by omega, by omega⟩, _, hla, main3 _ ?_⟩
      unfold scI
      rw [if_pos (by omega), <- List.getElem_eq_getD (h := by omega)]
      have : (partsI l)[1]'(by omega) = (ps[1]'(by omega)).data.toList := by
        unfold partsI
        simp only [<- hcut, List.getElem_map]
      rw [this, ba_size]
    · unfold scI
      rw [if_neg (by omega)]; rfl
  unfold impl_TextDec_j0
  rw [hl] at main
  rw [ne_empty, hl]
  have negEq : ∀ (h0 : 0 < l.length), decide ((((l[0]'h0).toNat : Nat) : Int) = 45) = decide (l.head? = some 45) := fun h0 => by
    cases l with
    | nil => cases h0
    | cons c r => exact decide_eq_decide.2 (by
        show ((c.toNat : Nat) : Int) = (((45 : UInt8).toNat : Nat) : Int) ↔ _
        rw [byte_eq]; simp)
  refine ifN (fun hne => ?_) (fun hemp => ?_)
  · have h0 : 0 < l.length := by
      cases l with
      | nil => cases hne
      | cons _ _ => exact Nat.succ_pos _
    refine ⟨by omega, l[0]'h0, by subst hl; exact ba_get (i := 0) h0, ?_⟩
    rw [negEq h0]
    refine ⟨fun h45 => ⟨⟨by omega, by omega⟩, main _ ?_⟩, fun h45 => main s ?_⟩
    · unfold dgI
      rw [if_pos (of_decide_eq_true h45), ByteArray.data_extract, Array.toList_extract, hl, List.extract_eq_take_drop, List.take_of_length_le (by rw [List.length_drop]; omega)]
    · unfold dgI
      rw [if_neg (of_decide_eq_false h45), hl]
  · have hl0 : l = [] := List.isEmpty_iff.1 hemp
    refine ifF ?_
    have := main s (by rw [hl, hl0]; rfl)
    rwa [show decide (l.head? = some 45) = false from by rw [hl0]; rfl] at this
end Go.Proofs.YtbgokfhcgcoipaaGreatDoor
namespace Go.Proofs.YtbgokfhcgcoipaaGreatDoor
open Go Go.Proofs.YtbgokfhcgcoipaaGreatDoor.Sx
def percentT : List D0 -> ByteArray
  | [.bool b, .ints z, .int s] => if taxOk [.bool b, .ints z, .int s] then decT (dnn (lowM ((val z).toNat * 100) s.toNat) (lowS ((val z).toNat * 100) s.toNat)) ++ S [37] else S []
  | _ => S []
theorem impl_Percent_c {w : World} {xs : List Value} {dx : List D0} (h : Reps w xs dx) (hc : dx.map D0.code = [.bool, .ints, .int]) (hp : TabP w) :
    Ret P n_impl_Percent [.agg ⟨xs⟩] w fun v w' => v = .string (percentT dx) /\ Ext w w' := by
  have hr := h
  obtain ⟨a0, ap, an, ac, az, a2, rfl, rfl, ha⟩ := open_Dec h hc
  refine impl_Percent_ret ?_
  unfold impl_Percent
  intro r w1 hn1
  refine ⟨_, _, _, _, _, hn1.blk.loadA0 (by kernel_rfl), ?_⟩
  refine Ret.at (impl_TaxRateOk_c (hr.ext hn1.ext) rfl) ?_
  rintro v w2 ⟨hv, y2⟩
  subst hv
  have X2 := hn1.ext.trans y2
  have bk := hn1.blk.ext y2
  refine ⟨_, rfl, ifN (fun e => ⟨by simp only [percentT, e, Bool.false_eq_true, if_false], X2⟩) (fun e => ?_)⟩
  have hgoal : percentT [.bool a0, .ints az, .int a2] = decT (dnn (lowM ((val az).toNat * 100) a2.toNat) (lowS ((val az).toNat * 100) a2.toNat)) ++ S [37] := by simp only [percentT, e, if_true]
  obtain ⟨m, t, rfl, rfl, rfl, ht, em, et, hm⟩ := taxOk_nn e
  rw [hgoal, em, et]
  have l1 := one_len hm; have l2 := hundred_len hm
  have h100 : (digs 100).length <= 1 := one_len (by decide)
  have lM : (digs (lowM (m * 100) t)).length <= 2 := Nat.le_trans (digs_mono_len (lowM_le _ _)) l2
  have hr2 : Reps w2 [.bool false, .slice ap an ac, .int .i64 (t : Int)] (dnn m t) := hr.ext X2
  have fin : ∀ q, decT q = decT q := fun _ => rfl
  have D := Ext.drew w2
  have q0 := bk.ext D
  refine ⟨_, _, _, _, _, fun W hW => (q0.ext hW).loadA0 (by kernel_rfl), ?_⟩
  intro ss w3 f1
  refine Ret.at (impl_IntOf_c (n := 100) (by omega) (by omega)) ?_
  rintro v w4 ⟨vs4, f4, hv, ho4, _, y4⟩
  subst hv
  have e100 : enc 100 = [.bool false, .ints (digs 100)] := enc_nat 100
  rw [e100] at ho4
  obtain ⟨g0, gp, gn, gc, gz, rfl, hg, hgi⟩ := open_Signed ho4.reps rfl
  simp only [List.cons.injEq, D0.bool.injEq, D0.ints.injEq, and_true] at hg
  obtain ⟨rfl, rfl⟩ := hg
  refine ⟨_, _, _, _, rfl, y4, ?_⟩
  intro ss1 w5 f2
  have Y5 := (f1.ext.trans y4).trans f2.ext
  have hd5 : Reps w5 [.bool false, .slice gp gn gc, .int .i64 0] (dnn 100 0) := ⟨rfl, ⟨_, _, _, rfl, hgi.ext f2.ext⟩, rfl, trivial⟩
  refine Ret.at (impl_DecMul_n (hr2.ext (D.trans Y5)) hd5 (by omega) (by omega) ⟨by omega, by omega⟩ ⟨by omega, by omega⟩ (by omega) (by omega)) ?_
  rintro v w6 ⟨vs6, f6, hv, ho6, y6⟩
  subst hv
  rw [Int.add_zero] at ho6
  have hp6 := ho6.reps
  obtain ⟨d0, dp, dn, dc, dz, ds, rfl, hde, hdi⟩ := open_Dec hp6 rfl
  have hde' := hde
  simp only [dnn, List.cons.injEq, D0.bool.injEq, D0.ints.injEq, D0.int.injEq, and_true] at hde'
  obtain ⟨rfl, rfl, rfl⟩ := hde'
  refine ⟨_, _, _, _, _, _, rfl, ?_⟩
  intro ss2 w7 r7 f3 g3
  have Y7 := (Y5.trans y6).trans f3.ext
  have hb7 : Blk w7 r7 T_impl_Dec [.bool false, .slice none 0 0, .int .i64 0] := by
    have len0 := f1.len; have len1 := f2.len
    cases hs : ss[0]? with
    | none =>
      rw [List.getElem?_eq_none_iff, len0] at hs
      simp at hs
    | some v =>
      cases v with
      | some q =>
        obtain ⟨_, hq⟩ := f1.got (k := 0) rfl rfl hs
        have e := (f3.keeps (f2.keeps hs)).symm.trans g3
        have e : q = r7 := by simpa using e
        rw [e] at hq
        exact Blk.ext (show Blk w3 r7 T_impl_Dec [.bool false, .slice none 0 0, .int .i64 0] from hq) (((y4.trans f2.ext).trans y6).trans f3.ext)
      | none =>
        cases hs1 : ss1[0]? with
        | none =>
          rw [List.getElem?_eq_none_iff, len1, len0] at hs1
          simp at hs1
        | some v1 =>
          cases v1 with
          | some q =>
            obtain ⟨_, hq⟩ := f2.got (k := 0) hs rfl hs1
            have e := (f3.keeps hs1).symm.trans g3
            have e : q = r7 := by simpa using e
            rw [e] at hq
            exact Blk.ext (show Blk w5 r7 T_impl_Dec [.bool false, .slice none 0 0, .int .i64 0] from hq) (y6.trans f3.ext)
          | none => exact (f3.got (k := 0) hs1 rfl g3).2
  have hr7 : w2.drew.heap.size <= r7 := by
    have len0 := f1.len; have len1 := f2.len
    cases hs : ss[0]? with
    | none =>
      rw [List.getElem?_eq_none_iff, len0] at hs
      simp at hs
    | some v =>
      cases v with
      | some q =>
        obtain ⟨b, _⟩ := f1.got (k := 0) rfl rfl hs
        have e := (f3.keeps (f2.keeps hs)).symm.trans g3
        have e : q = r7 := by simpa using e
        omega
      | none =>
        cases hs1 : ss1[0]? with
        | none =>
          rw [List.getElem?_eq_none_iff, len1, len0] at hs1
          simp at hs1
        | some v1 =>
          cases v1 with
          | some q =>
            obtain ⟨b, _⟩ := f2.got (k := 0) hs rfl hs1
            have e := (f3.keeps hs1).symm.trans g3
            have e : q = r7 := by simpa using e
            have := (f1.ext.trans y4).le
            omega
          | none =>
            have b := (f3.got (k := 0) hs1 rfl g3).1
            have := (Y5.trans y6).le
            omega
  obtain ⟨w8, st8, hb8, ch, sz⟩ := hb7.storeA0 (P := P) (t := T_impl_Dec) (xs := [.bool false, .slice dp dn dc, .int .i64 (t : Int)]) (by kernel_rfl) rfl (by simp [Value.oneCell'])
  have Z8 : Ext w w8 := (X2.trans (D.trans Y7)).chg ch (by
    have := (X2.trans D).le
    simp; omega)
  have hp8 : Reps w8 [.bool false, .slice dp dn dc, .int .i64 (t : Int)] (dnn (m * 100) t) := ⟨rfl, ⟨_, _, _, rfl, IntsR.store3 hb7 (hdi.ext f3.ext) ch⟩, rfl, trivial⟩
  refine ⟨w8, st8, _, _, _, _, _, hb8.loadA0 (by kernel_rfl), ?_⟩
  refine Ret.at (impl_DecLow_n hp8 (by omega) ht) ?_
  rintro v w9 ⟨vs9, hv, hp9, y9⟩
  subst hv
  have hp9' := hp9
  obtain ⟨e0, ep, en, ec, ez, es, rfl, _, _⟩ := open_Dec hp9' rfl
  refine ⟨_, _, _, _, _, rfl, ?_⟩
  refine Ret.at (impl_DecText_c hp9 rfl (hp.ext (Z8.trans y9))) ?_
  rintro v w10 ⟨hv, y10⟩
  subst hv
  have N := decT_size (dnn (lowM (m * 100) t) (lowS (m * 100) t))
  refine ⟨_, rfl, ?_, _, rfl, rfl, (Z8.trans y9).trans y10⟩
  show _ + 1 <= _
  omega
end Go.Proofs.YtbgokfhcgcoipaaGreatDoor
namespace Go.Proofs.YtbgokfhcgcoipaaGreatDoor
open Go Go.Proofs.YtbgokfhcgcoipaaGreatDoor.Sx
def bodyT (s : ByteArray) : ByteArray := s.extract 0 (s.size - 1)
def lowD : List D0 -> List D0
  | [.bool b, .ints z, .int t] => dsn b (lowM (val z).toNat (t.toNat + 2)) (lowS (val z).toNat (t.toNat + 2))
  | _ => zeroDec
def tpOk (s : ByteArray) : Bool := decide (s.data.toList.getLast? = some 37) && (tdOk (bodyT s) && decide (percentT (lowD (cand (bodyT s).data.toList)) = s))
def tpR (s : ByteArray) : List D0 := if tpOk s then lowD (cand (bodyT s).data.toList) else zeroDec
theorem cand_parts {s : ByteArray} (h : tdOk s = true) : ∃ (b : Bool) (m t : Nat), cand s.data.toList = dsn b m t /\ (b = true -> m ≠ 0) /\ (digs m).length <= 6 /\ t <= 30 /\ decT (dsn b m t) = s := by
  unfold tdOk at h
  simp only [Bool.and_eq_true, decide_eq_true_eq] at h
  obtain ⟨hok, hT⟩ := h
  obtain ⟨m, t, k, hz, ht, ht30, hb, hm, _⟩ := decT_shape (b := decide (s.data.toList.head? = some 45)) (z := digs (digV (strip (filt s.data.toList)))) (s := (scaleG 0 s.data.toList : Nat)) hok
  have e : cand s.data.toList = dsn (decide (s.data.toList.head? = some 45)) m t := by
    unfold cand dsn
    rw [hz, ht]
  exact ⟨_, m, t, e, hb, hm, ht30, by rw [<- e]; exact hT⟩
theorem lowD_dsn (b : Bool) (m t : Nat) : lowD (dsn b m t) = dsn b (lowM m (t + 2)) (lowS m (t + 2)) := by
  show dsn b (lowM (val (digs m)).toNat ((t : Int).toNat + 2)) (lowS (val (digs m)).toNat ((t : Int).toNat + 2)) = _
  rw [val_digs, Int.toNat_natCast, Int.toNat_natCast]
theorem body_size {s : ByteArray} (h : s.data.toList.getLast? = some 37) : 0 < s.size /\ s = bodyT s ++ S [37] := by
  obtain ⟨l, hl⟩ : ∃ l, s.data.toList = l := ⟨_, rfl⟩
  have hs : s.size = l.length := by rw [ba_size, hl]
  rw [hl] at h
  have hne : l ≠ [] := fun e => by rw [e] at h; cases h
  have h0 : 0 < l.length := List.length_pos_iff.2 hne
  refine ⟨by omega, ba_ext ?_⟩
  unfold bodyT
  rw [ByteArray.data_append, Array.toList_append, ByteArray.data_extract, Array.toList_extract, hl, List.extract_eq_take_drop, List.drop_zero, hs, Nat.sub_zero]
  show l = l.take (l.length - 1) ++ [37]
  rw [List.getLast?_eq_some_iff] at h
  obtain ⟨ys, rfl⟩ := h
  simp
theorem owns_nd2 {W : World} {B : Nat} {b : Bool} {p : Option Addr} {n c : Nat} {z : List Int} {f : List Nat} (h : Owns W B [.bool b, .slice p n c] [.bool b, .ints z] f) : f.Nodup := by
  obtain ⟨f1, f2, rfl, ⟨_, rfl⟩, f3, f4, rfl, ⟨p', n', c', e, _, rfl⟩, rfl⟩ := h
  simp only [List.nil_append, List.append_nil]
  exact nodup_opt p'
theorem strip_step {m s t : Nat} (ht : 0 < t) (hts : t <= s) (h : m % 10 ^ (s - t) = 0) (h10 : m / 10 ^ (s - t) % 10 = 0) : m % 10 ^ (s - (t - 1)) = 0 /\ m / 10 ^ (s - (t - 1)) = m / 10 ^ (s - t) / 10 := by
  have e : s - (t - 1) = (s - t) + 1 := by omega
  rw [e, Nat.pow_succ]
  refine ⟨?_, (Nat.div_div_eq_div_mul _ _ _).symm⟩
  rw [Nat.mod_mul, h, h10]; simp
theorem strip_stop {m s t : Nat} (hts : t <= s) (h10 : m / 10 ^ (s - t) % 10 ≠ 0) : ∀ u, u < t -> m % 10 ^ (s - u) ≠ 0 := by
  intro u hu h0
  have h1 : 10 ^ ((s - t) + 1) ∣ 10 ^ (s - u) := Nat.pow_dvd_pow 10 (by omega)
  have h2 : m % 10 ^ ((s - t) + 1) = 0 := Nat.mod_eq_zero_of_dvd (Nat.dvd_trans h1 (Nat.dvd_of_mod_eq_zero h0))
  rw [Nat.pow_succ, Nat.mod_mul] at h2
  have h3 : 0 < 10 ^ (s - t) := Nat.pos_of_ne_zero (by simp)
  have h4 : 10 ^ (s - t) * (m / 10 ^ (s - t) % 10) = 0 := by omega
  rcases Nat.mul_eq_zero.1 h4 with h5 | h5
  · omega
  · exact h10 h5
end Go.Proofs.YtbgokfhcgcoipaaGreatDoor
namespace Go.Proofs.YtbgokfhcgcoipaaGreatDoor
open Go Go.Proofs.YtbgokfhcgcoipaaGreatDoor.Sx
theorem impl_lowest_o {w : World} {B : Nat} {b : Bool} {p : Option Addr} {n c : Nat} {m s : Nat} {f : List Nat} (h : Owns w B [.bool b, .slice p n c] [.bool b, .ints (digs m)] f) (hB : B <= w.heap.size) (hb : b = true -> m ≠ 0) (hm : (digs m).length <= 6) (hs : s <= 1000) :
    Ret P n_impl_lowest [.agg ⟨[.bool b, .slice p n c]⟩, .int .i64 s] w fun v w' => ∃ vs f, v = .agg ⟨vs⟩ /\ Owns w' B vs (dsn b (lowM m s) (lowS m s)) f /\ f.Nodup /\ Ext w w' := by
  refine impl_lowest_ret ?_
  unfold impl_lowest
  intro r w1 hn1 r1 w2 hn2
  have e1 := hn1.r_eq; have e2 := hn2.r_eq; have s1 := hn1.size; have s2 := hn2.size
  have X := hn1.ext.trans hn2.ext
  have q0 := hn1.blk.ext hn2.ext; have q1 := hn2.blk
  have hfl := h.lt
  -- the end
  have fin : ∀ (W : World) (t : Nat) (pt : Option Addr) (nt ct : Nat) (ft : List Nat), Ext w W -> Blk W r T_impl_Signed [.bool b, .slice pt nt ct] -> Blk W r1 T_impl_Dec [.bool false, .slice none 0 0, .int .i64 0] -> Owns W B [.bool b, .slice pt nt ct] [.bool b, .ints (digs (m / 10 ^ (s - t)))] ft -> (∀ q ∈ ft, q ≠ r1) -> ft.Nodup -> lowS m s = t ->
      impl_lowest_j0 r r1 (t : Int) W fun v w' => ∃ vs f, v = .agg ⟨vs⟩ /\ Owns w' B vs (dsn b (lowM m s) (lowS m s)) f /\ f.Nodup /\ Ext w w' := by
    intro W t pt nt ct ft hX hr hr1 ho hft hnd ht
    unfold impl_lowest_j0
    obtain ⟨W', st, hb', cg, sz⟩ := hr1.storeA0 (P := P) (t := T_impl_Dec) (xs := [.bool b, .slice pt nt ct, .int .i64 (t : Int)]) (by kernel_rfl) rfl (by simp [Value.oneCell'])
    refine ⟨_, _, _, _, hr.loadA0 (by kernel_rfl), W', st, _, _, _, _, _, hb'.loadA0 (by kernel_rfl), _, ft, rfl, ?_, hnd, hX.chg cg (by simp; omega)⟩
    have h1 := (ho.chg cg (fun q hq => by have := hft q hq; simpa using this))
    have h2 := Owns.append h1 (Owns.int W' B (t : Int))
    rw [List.append_nil] at h2
    unfold lowM
    rw [ht]
    exact h2
  refine ⟨fun sc W => ∃ (t : Nat) (pt : Option Addr) (nt ct : Nat) (ft : List Nat), sc = t /\ t <= s /\ m % 10 ^ (s - t) = 0 /\ (b = true -> m / 10 ^ (s - t) ≠ 0) /\ Ext w W /\ Blk W r T_impl_Signed [.bool b, .slice pt nt ct] /\ Blk W r1 T_impl_Dec [.bool false, .slice none 0 0, .int .i64 0] /\ Owns W B [.bool b, .slice pt nt ct] [.bool b, .ints (digs (m / 10 ^ (s - t)))] ft /\ (∀ q ∈ ft, q ≠ r1 /\ q ≠ r) /\ ft.Nodup,
    fun sc _ => sc.toNat, ⟨s, p, n, c, f, rfl, Nat.le_refl _, by rw [Nat.sub_self, Nat.pow_zero, Nat.mod_one], by rw [Nat.sub_self, Nat.pow_zero, Nat.div_one]; exact hb, X, q0, q1, by rw [Nat.sub_self, Nat.pow_zero, Nat.div_one]; exact h.ext X, fun q hq => by have := hfl q hq; omega, owns_nd2 h⟩, ?_⟩
  rintro junk W sc ⟨t, pt, nt, ct, ft, rfl, hts, hmod, hbt, hX, hr, hr1, ho, hft, hnd⟩
  obtain ⟨x, hx⟩ : ∃ x, m / 10 ^ (s - t) = x := ⟨_, rfl⟩
  rw [hx] at hbt ho
  have hor := ho.reps
  have hml : (digs x).length <= 6 := by rw [<- hx]; exact Nat.le_trans (digs_mono_len (Nat.div_le_self _ _)) hm
  refine ifD (fun hpos => ?_) (fun hz => ?_)
  · have hi : IntsR W pt nt ct (digs x) := by
      obtain ⟨_, ⟨p', n', c', e, hi⟩, _⟩ := hor
      cases e; exact hi
    have hil := hi.1
    refine ⟨_, _, _, hr.loadAt 1 (by rw [addr_add]) (by kernel_rfl) rfl, ?_⟩
    refine Ret.at (impl_natSmall_c hi (digs_limbs _) (by omega) (by omega)) ?_
    rintro v W1 ⟨pq, nq, cq, hv, oq, y1⟩
    subst hv
    rw [val_digs] at oq ⊢
    have hq : (((x : Nat) : Int) / 10).toNat = x / 10 := by omega
    rw [hq] at oq
    refine ⟨_, _, _, _, rfl, ifD (fun hrest => ?_) (fun hrest => ?_)⟩
    · refine fin W1 t pt nt ct ft (hX.trans y1) (hr.ext y1) (hr1.ext y1) (by rw [hx]; exact ho.ext y1) (fun q hq => (hft q hq).1) hnd ?_
      exact lowS_eq hts hmod (strip_stop hts (by rw [hx]; omega))
    · obtain ⟨st1, st2⟩ := strip_step (by omega) hts hmod (by rw [hx]; omega)
      refine ⟨_, (hr.ext y1).loadAt 0 (by rw [addr_add]) (by kernel_rfl) rfl, ?_⟩
      have oqi := oq.ints
      refine Ret.at (impl_signed_c (neg := b) oqi.1) ?_
      rintro v W2 ⟨hv, y2⟩
      subst hv
      have hbb : (b && !(digs (x / 10)).isEmpty) = b := by
        cases hb1 : b with
        | false => rfl
        | true =>
          have h1 := hbt hb1
          rw [isEmpty_digs, decide_eq_false (by omega)]; rfl
      rw [hbb]
      obtain ⟨W3, st3, hb3, cg3, sz3⟩ := ((hr.ext y1).ext y2).storeA0 (P := P) (t := T_impl_Signed) (xs := [.bool b, .slice pq nq cq]) (by kernel_rfl) rfl (by simp [Value.oneCell'])
      have l0 := hX.le; have l1 := y1.le; have l2 := y2.le
      have lr := hr.lt; have lr1 := hr1.lt
      have oq2 : Owns W2 W.heap.size [.bool b, .slice pq nq cq] [.bool b, .ints (digs (x / 10))] (pq.map (·.block)).toList := Owns.int2 (oq.ext y2)
      have oq2l := oq2.lt
      have ho3 : Owns W3 B [.bool b, .slice pq nq cq] [.bool b, .ints (digs (x / 10))] (pq.map (·.block)).toList :=
        (oq2.mono (B' := B) (by omega)).chg cg3 (fun q hq => by have := oq2l q hq; simp; omega)
      refine ⟨_, _, _, _, rfl, W3, st3, exW ⟨by omega, by omega⟩ ⟨⟨t - 1, pq, nq, cq, _, by omega, by omega, st1, by rw [st2, hx]; intro h1; have := hbt h1; omega, ((hX.trans y1).trans y2).chg cg3 (by simp; omega), hb3, ((hr1.ext y1).ext y2).chg cg3 (by simp; omega), by rw [st2, hx]; exact ho3, fun q hq => by have := oq2l q hq; omega, nodup_opt pq⟩, ?_⟩⟩
      show ((t : Int) - 1).toNat < (t : Int).toNat
      omega
  · have h0 : t = 0 := by omega
    exact fin W t pt nt ct ft hX hr hr1 (by rw [hx]; exact ho) (fun q hq => (hft q hq).1) hnd (lowS_eq hts hmod (fun u hu => by omega))
theorem impl_TextPercent_o {w : World} (s : ByteArray) (hs : s.size <= 1048576) (hp : TabP w) : Ret P n_impl_TextPercent [.string s] w fun v w' => ∃ vs f, v = .tuple #[.agg ⟨vs⟩, .bool (tpOk s)] /\ Owns w' w.heap.size vs (tpR s) f /\ f.Nodup /\ Ext w w' := by
  obtain ⟨l, hl⟩ : ∃ l, s.data.toList = l := ⟨_, rfl⟩
  have hsl : s.size = l.length := by rw [ba_size, hl]
  refine impl_TextPercent_ret ?_
  unfold impl_TextPercent
  intro r w1 hn1
  have e1 := hn1.r_eq; have z1 := hn1.size
  have zero : ∀ W, Ext w1 W -> tpOk s = false -> ∃ W', Stores P T_impl_Dec ⟨r, 0, none⟩ (.agg #[.bool false, .slice none 0 0, .int .i64 0]) W W' /\ ∃ (x0 : Bool) (x1p : Option Addr) (x1n x1c : Nat) (x2 : Int), Loads P T_impl_Dec ⟨r, 0, none⟩ (.agg #[.bool x0, .slice x1p x1n x1c, .int .i64 x2]) W' /\
      ∃ vs f, Value.tuple #[.agg #[.bool x0, .slice x1p x1n x1c, .int .i64 x2], .bool false] = .tuple #[.agg ⟨vs⟩, .bool (tpOk s)] /\ Owns W' w.heap.size vs (tpR s) f /\ f.Nodup /\ Ext w W' := by
    intro W hW hno
    obtain ⟨W', st, hb', cg, sz⟩ := (hn1.blk.ext hW).storeA0 (P := P) (t := T_impl_Dec) (xs := [.bool false, .slice none 0 0, .int .i64 0]) (by kernel_rfl) rfl (by simp [Value.oneCell'])
    unfold tpR
    rw [hno]
    exact ⟨W', st, _, _, _, _, _, hb'.loadA0 (by kernel_rfl), _, [], rfl, own_dec0 _ _, List.nodup_nil, (hn1.ext.trans hW).chg cg (by simp; omega)⟩
  have main : l.getLast? = some 37 -> impl_TextPercent_j0 s r w1 fun v w' => ∃ vs f, v = .tuple #[.agg ⟨vs⟩, .bool (tpOk s)] /\ Owns w' w.heap.size vs (tpR s) f /\ f.Nodup /\ Ext w w' := by
    intro hlast
    obtain ⟨h0, hsb⟩ := body_size (s := s) (by rw [hl]; exact hlast)
    unfold impl_TextPercent_j0
    refine exW ⟨by omega, by omega⟩ ⟨⟨by omega, by omega⟩, ?_⟩
    have he : (((s.size : Nat) : Int) - 1).toNat = s.size - 1 := by omega
    rw [he]
    have hbs : (bodyT s).size <= s.size := by
      have := congrArg ByteArray.size hsb
      rw [ByteArray.size_append] at this
      have h1 : (S [37]).size = 1 := rfl
      omega
    refine Ret.at (impl_TextDec_o (bodyT s) (by omega) (hp.ext hn1.ext)) ?_
    rintro v w2 ⟨vs, f, hv, ho, hnd, y2⟩
    subst hv
    have hcd : (if tdOk (bodyT s) then cand (bodyT s).data.toList else zeroDec).map D0.code = [.bool, .ints, .int] := by split <;> rfl
    obtain ⟨d0, dp, dn, dc, dz, dt, rfl, hdd, hdi⟩ := open_Dec ho.reps hcd
    refine ⟨_, _, _, _, _, _, rfl, ?_⟩
    intro r1 w3 hn3
    have e3 := hn3.r_eq
    obtain ⟨w4, st4, hb4, y4⟩ := hn3.fill (P := P) (t := T_impl_Dec) (xs := [.bool d0, .slice dp dn dc, .int .i64 dt]) (by simp [Value.oneCell']) (by kernel_rfl) rfl
    have Y4 := y2.trans y4
    have l2 := y2.le; have l4 := y4.le
    refine ⟨w4, st4, ifN (fun hno => zero w4 Y4 (by unfold tpOk; rw [hno]; simp)) (fun hyes => ?_)⟩
    rw [hyes, if_pos rfl] at ho hdd
    obtain ⟨b, m, t, hc, hb, hm, ht, hT⟩ := cand_parts hyes
    rw [hc] at ho hdd
    unfold dsn at hdd
    simp only [List.cons.injEq, D0.bool.injEq, D0.ints.injEq, D0.int.injEq, and_true] at hdd
    obtain ⟨rfl, rfl, rfl⟩ := hdd
    refine ⟨_, _, _, _, hb4.loadAAt 0 [.bool b, .slice dp dn dc] (by rw [addr_add]) (by kernel_rfl) rfl, _, hb4.loadAt 2 (by rw [addr_add]) (by kernel_rfl) rfl, exW ⟨by omega, by omega⟩ ?_⟩
    have e22 : ((t : Int) + 2) = ((t + 2 : Nat) : Int) := by omega
    rw [e22]
    have ho4 : Owns w4 w1.heap.size [.bool b, .slice dp dn dc] [.bool b, .ints (digs m)] f := by
      obtain ⟨f1, f2, hf, h1, f3, f4, hf2, h2, f5, f6, hf3, h3, h4⟩ := ho.ext y4
      refine ⟨f1, f3, ?_, h1, f3, [], by simp, h2, rfl⟩
      have h5 : f5 = [] := h3.2
      have h6 : f6 = [] := h4
      rw [hf, hf2, hf3, h5, h6]; simp
    refine Ret.at (impl_lowest_o (s := t + 2) ho4 (by omega) hb hm (by omega)) ?_
    rintro v w5 ⟨vs5, f5, hv, o5, nd5, y5⟩
    subst hv
    obtain ⟨g0, gp, gn, gc, gz, gt, rfl, hgd, hgi⟩ := open_Dec o5.reps rfl
    refine ⟨_, _, _, _, _, rfl, ?_⟩
    intro r2 w6 hn6
    have e6 := hn6.r_eq
    obtain ⟨w7, st7, hb7, y7⟩ := hn6.fill (P := P) (t := T_impl_Dec) (xs := [.bool g0, .slice gp gn gc, .int .i64 gt]) (by simp [Value.oneCell']) (by kernel_rfl) rfl
    have Y7 := (Y4.trans y5).trans y7
    have X7 := hn1.ext.trans Y7
    have l5 := y5.le; have l7 := y7.le
    refine ⟨w7, st7, _, _, _, _, _, hb7.loadA0 (by kernel_rfl), ?_⟩
    refine Ret.at (impl_Percent_c (o5.reps.ext y7) rfl (hp.ext X7)) ?_
    rintro v w8 ⟨hv, y8⟩
    subst hv
    have Y8 := Y7.trans y8
    have X8 := hn1.ext.trans Y8
    have hlow : lowD (cand (bodyT s).data.toList) = dsn b (lowM m (t + 2)) (lowS m (t + 2)) := by rw [hc, lowD_dsn]
    have htp : tpOk s = decide (percentT (dsn b (lowM m (t + 2)) (lowS m (t + 2))) = s) := by
      unfold tpOk
      rw [hl, hlast, hyes, hlow]; simp
    refine ⟨_, rfl, ifD (fun hne => zero w8 Y8 (by rw [htp]; exact decide_eq_false hne)) (fun heq => ?_)⟩
    have heq : percentT (dsn b (lowM m (t + 2)) (lowS m (t + 2))) = s := by simpa using heq
    have hyes2 : tpOk s = true := by rw [htp]; exact decide_eq_true heq
    have o5l := o5.lt
    obtain ⟨w9, st9, hb9, cg9, sz9⟩ := (hn1.blk.ext Y8).storeA0 (P := P) (t := T_impl_Dec) (xs := [.bool g0, .slice gp gn gc, .int .i64 gt]) (by kernel_rfl) rfl (by simp [Value.oneCell'])
    refine ⟨_, _, _, _, _, (hb7.ext y8).loadA0 (by kernel_rfl), w9, st9, _, _, _, _, _, hb9.loadA0 (by kernel_rfl), _, f5, by rw [hyes2], ?_, nd5, X8.chg cg9 (by simp; omega)⟩
    unfold tpR
    rw [hyes2, if_pos rfl, hlow]
    exact (((o5.ext y7).ext y8).chg cg9 (fun q hq => by have := o5l q hq; simp; omega)).mono (by omega)
  refine ifD (fun hemp => ifT (zero w1 (Ext.refl _) ?_)) (fun hne => ?_)
  · unfold tpOk
    rw [hemp]; rfl
  · have h0 : 0 < l.length := by
      cases l with
      | nil => exact absurd (ba_ext (by rw [hl])) hne
      | cons _ _ => exact Nat.succ_pos _
    have hix : ((s.size : Nat) : Int) - 1 = ((l.length - 1 : Nat) : Int) := by omega
    refine exW ⟨by omega, by omega⟩ ⟨by omega, l[l.length - 1]'(by omega), by subst hl; rw [hix]; exact ba_get (by omega), ifD (fun h37 => zero w1 (Ext.refl _) ?_) (fun h37 => main ?_)⟩
    · unfold tpOk
      rw [hl, List.getLast?_eq_getElem?, List.getElem?_eq_getElem (by omega)]
      have : l[l.length - 1]'(by omega) ≠ 37 := fun e => h37 (by rw [e]; rfl)
      simp [this]
    · rw [List.getLast?_eq_getElem?, List.getElem?_eq_getElem (by omega)]
      have h37' : (((l[l.length - 1]'(by omega)).toNat : Nat) : Int) = 37 := by simpa using h37
      exact congrArg some (UInt8.toNat_inj.1 (by show _ = 37; omega))
theorem tpR_code (s : ByteArray) : (tpR s).map D0.code = [.bool, .ints, .int] := by
  unfold tpR
  split
  · unfold lowD
    split <;> rfl
  · rfl
theorem tpR_cnt (s : ByteArray) : tcnts (tpR s) <= 1000000000 := by
  unfold tpR
  split
  · rename_i h
    unfold tpOk at h
    simp only [Bool.and_eq_true, decide_eq_true_eq] at h
    obtain ⟨b, m, t, hc, hb, hm, ht, hT⟩ := cand_parts h.2.1
    rw [hc, lowD_dsn]
    have h1 : (digs (lowM m (t + 2))).length <= (digs m).length := digs_mono_len (lowM_le m (t + 2))
    simp only [dsn, tcnts]
    omega
  · decide
theorem impl_TextPercent_c {w : World} (s : ByteArray) (hs : s.size <= 1048576) (hp : TabP w) : Ret P n_impl_TextPercent [.string s] w fun v w' => ∃ vs f, v = .tuple #[.agg ⟨vs⟩, .bool (tpOk s)] /\ Owns w' w.heap.size vs (tpR s) f /\ f.Nodup /\ (tpR s).map D0.code = [.bool, .ints, .int] /\ tcnts (tpR s) <= 1000000000 /\ Ext w w' :=
  (impl_TextPercent_o s hs hp).mono fun v w' ⟨vs, f, hv, ho, hn, hx⟩ => ⟨vs, f, hv, ho, hn, tpR_code s, tpR_cnt s, hx⟩
end Go.Proofs.YtbgokfhcgcoipaaGreatDoor
namespace Go.Proofs.YtbgokfhcgcoipaaGreatDoor
open Go Go.Proofs.YtbgokfhcgcoipaaGreatDoor.Sx
theorem money_mid {c : ByteArray} (hc : curKnown c = true) {z : Int} (h : z.natAbs < 1000000000000000000000000000000000000) : moneyOk (.str c :: enc z) = true := by
  have h4 : (digs z.natAbs).length <= 4 := digs_len 4 (by omega)
  have h5 : intOk (enc z) = true := enc_ok (by omega)
  show (curKnown c && intOk (enc z) && decide ((digs z.natAbs).length <= 4)) = true
  rw [hc, h5, decide_eq_true h4]; rfl
theorem rate_small : ∀ z ∈ rateNums, ∀ s ∈ rateScales, 0 <= z /\ z <= 1000 /\ 0 <= s /\ s <= 4 /\ z.toNat <= 10 ^ s.toNat := by decide
theorem rate_pct : ∀ z ∈ rateNums, ∀ s ∈ rateScales, tpOk (percentT (enc z ++ [.int s])) = true /\ dcmp (tpR (percentT (enc z ++ [.int s]))) (enc z ++ [.int s]) = 0 /\ (percentT (enc z ++ [.int s])).size <= 1048576 := by decide +kernel
structure RateF (dr : List D0) (m t : Nat) : Prop where
  form : dr = [.bool false, .ints (digs m), .int (t : Int)]
  tax : taxOk [.bool false, .ints (digs m), .int (t : Int)] = true
  le : m <= 10 ^ t
  num : m <= 1000
  sc : t <= 4
  pct : tpOk (percentT dr) = true /\ dcmp (tpR (percentT dr)) dr = 0 /\ (percentT dr).size <= 1048576
theorem rate_facts {z s : Int} (hz : z ∈ rateNums) (hs : s ∈ rateScales) : ∃ m t, RateF (enc z ++ [.int s]) m t := by
  obtain ⟨z0, z1, s0, s1, hle⟩ := rate_small z hz s hs
  obtain ⟨m, t, hf, ht⟩ := rate_form hz hs
  obtain ⟨a, rfl⟩ : ∃ a : Nat, z = a := ⟨z.toNat, by omega⟩
  obtain ⟨b, rfl⟩ : ∃ b : Nat, s = b := ⟨s.toNat, by omega⟩
  have e : enc (a : Int) ++ [.int (b : Int)] = [.bool false, .ints (digs a), .int (b : Int)] := by rw [enc_nat]; rfl
  have ht' : taxOk [.bool false, .ints (digs a), .int (b : Int)] = true := by rw [<- e, hf]; exact ht
  rw [Int.toNat_natCast, Int.toNat_natCast] at hle
  exact ⟨a, b, e, ht', hle, by omega, by omega, rate_pct _ hz _ hs⟩
theorem quot_le {X : Int} {Y : Nat} {r : Int} {U : Nat} (h1 : X.natAbs <= U * Y) (hn : (X - r * Y).natAbs < Y) : r.natAbs <= U := by
  have h5 : r.natAbs * Y < (U + 1) * Y := by
    have e1 : (r * (Y : Int)).natAbs = r.natAbs * Y := by rw [Int.natAbs_mul, Int.natAbs_natCast]
    rw [Nat.add_mul, Nat.one_mul, <- e1]
    omega
  have := Nat.lt_of_mul_lt_mul_right h5
  omega
theorem ten_le {t : Nat} (h : t <= 4) : 10 ^ t <= 10000 := Nat.le_trans (Nat.pow_le_pow_right (by decide) h) (by decide)
theorem exD_le (u : Int) (m t : Nat) : exD u m t <= 10 ^ t := by
  unfold exD redD
  refine Nat.le_trans (Nat.div_le_self _ _) ?_
  rw [Nat.one_mul]
  exact Nat.div_le_self _ _
theorem len18 {n : Nat} (h : n < 1000000000000000000000000000000000000000000000) : (digs n).length <= 18 := Nat.le_trans (digs_len 5 (by omega)) (by decide)
structure InF (u : Int) (m t : Nat) (X : Int) (Y : Nat) (net : Int) : Prop where
  eqn : X * ((10 ^ t + m : Nat) : Int) = u * (10 ^ t : Nat) * Y
  pos : 0 < Y
  Yle : Y <= 11000
  Xle : X.natAbs <= u.natAbs * 10000
  near : (X - net * Y).natAbs < Y
  nle : net.natAbs <= u.natAbs
theorem in_facts' {dr : List D0} {u : Int} {m t : Nat} (mode : Int) (R : RateF dr m t) : InF u m t (inN u m t) (inD u m t) (rround (inN u m t) (inD u m t) mode) := by
  obtain ⟨h1, h2, h3, h4⟩ := in_val u m t
  have ht := ten_le R.sc
  have hn := rround_near (n := inN u m t) mode h2
  have hm := R.num
  refine ⟨h1, h2, by omega, Nat.le_trans h3 (Nat.mul_le_mul_left _ ht), hn, quot_le ?_ hn⟩
  have hp : 0 < 10 ^ t + m := by have : 0 < 10 ^ t := Nat.pow_pos (by decide); omega
  have e : (inN u m t).natAbs * (10 ^ t + m) = u.natAbs * 10 ^ t * inD u m t := by
    have := congrArg Int.natAbs h1
    rw [Int.natAbs_mul, Int.natAbs_mul, Int.natAbs_mul, Int.natAbs_natCast, Int.natAbs_natCast, Int.natAbs_natCast] at this
    exact this
  refine Nat.le_of_mul_le_mul_right (c := 10 ^ t + m) ?_ hp
  rw [e, Nat.mul_right_comm]
  exact Nat.mul_le_mul_left _ (Nat.le_add_right _ _)
structure OnF (u : Int) (m t : Nat) (X : Int) (Y : Nat) (on : Int) : Prop where
  eqn : X * (10 ^ t : Nat) = u * m * Y
  pos : 0 < Y
  Yle : Y <= 10000
  Xle : X.natAbs <= u.natAbs * 10000
  near : (X - on * Y).natAbs < Y
  nle : on.natAbs <= u.natAbs
theorem on_facts {dr : List D0} {u : Int} {m t : Nat} (mode : Int) (R : RateF dr m t) : OnF u m t (exN u m t) (exD u m t) (rround (exN u m t) (exD u m t) mode) := by
  obtain ⟨h1, h2⟩ := ex_val u m t
  have ht := ten_le R.sc
  have hY := exD_le u m t
  have hn := rround_near (n := exN u m t) mode h2
  have hp : 0 < 10 ^ t := Nat.pow_pos (by decide)
  have e : (exN u m t).natAbs * 10 ^ t = u.natAbs * m * exD u m t := by
    have := congrArg Int.natAbs h1
    rw [Int.natAbs_mul, Int.natAbs_mul, Int.natAbs_mul, Int.natAbs_natCast, Int.natAbs_natCast, Int.natAbs_natCast] at this
    exact this
  have hX : (exN u m t).natAbs <= u.natAbs * exD u m t := by
    refine Nat.le_of_mul_le_mul_right (c := 10 ^ t) ?_ hp
    rw [e, Nat.mul_right_comm]
    exact Nat.mul_le_mul_left _ R.le
  exact ⟨h1, h2, by omega, Nat.le_trans hX (Nat.mul_le_mul_left _ (by omega)), hn, quot_le hX hn⟩
theorem rest_rv {X : Int} {Y : Nat} {mode : Int} (hY : 0 < Y) (hYl : Y <= 11000) (hn : (X - rround X Y mode * Y).natAbs < Y) : RV (restR X Y mode) (X - rround X Y mode * Y) Y := by
  unfold restR
  have e : X * ((1 : Nat) : Int) + -(rround X Y mode) * (Y : Int) = X - rround X Y mode * Y := by
    show X * 1 + _ = _
    rw [Int.mul_one, Int.neg_mul]; omega
  rw [e, Nat.mul_one]
  exact (RV.red hY (len18 (by omega)) (len18 (by omega))).2
theorem taxIn_draw {c : ByteArray} (hc : curKnown c = true) {u : Int} {m t : Nat} {dr : List D0} {mode : Int} (hu : u.natAbs < 1000000000000000000000000000) (R : RateF dr m t) (hm : modeOk mode = true) :
    taxInT (.str c :: enc u) dr mode = (true, .str c :: enc (rround (inN u m t) (inD u m t) mode), .str c :: enc (u - rround (inN u m t) (inD u m t) mode), restR (inN u m t) (inD u m t) mode) := by
  have F := in_facts' (u := u) mode R
  have hn := F.nle
  have hv : ival (enc u) = u := ival_enc u
  have hd : (val (digs m)).toNat = m := by rw [val_digs]; omega
  have o1 := money_mid hc (z := u) (by omega)
  have o2 := money_mid hc (z := rround (inN u m t) (inD u m t) mode) (by omega)
  have o3 := money_mid hc (z := u - rround (inN u m t) (inD u m t) mode) (by omega)
  rw [R.form]
  show taxInT [.str c, .bool (decide (u < 0)), .ints (digs u.natAbs)] [.bool false, .ints (digs m), .int (t : Int)] mode = _
  unfold taxInT
  simp only
  have hv' : ival [.bool (decide (u < 0)), .ints (digs u.natAbs)] = u := hv
  have o1' : moneyOk [.str c, .bool (decide (u < 0)), .ints (digs u.natAbs)] = true := o1
  have hr : rmOk c (inN u m t) (inD u m t) mode = true := by unfold rmOk; rw [hm, o2]; rfl
  rw [hv', hd, Int.toNat_natCast, o1', R.tax, hr, o3]
  rfl
theorem taxOn_draw {c : ByteArray} (hc : curKnown c = true) {u : Int} {m t : Nat} {dr : List D0} {mode : Int} (hu : u.natAbs < 1000000000000000000000000000) (R : RateF dr m t) (hm : modeOk mode = true) :
    taxOnT (.str c :: enc u) dr mode = (true, .str c :: enc (rround (exN u m t) (exD u m t) mode), restR (exN u m t) (exD u m t) mode) := by
  have F := on_facts (u := u) mode R
  have hn := F.nle
  have hv : ival (enc u) = u := ival_enc u
  have hd : (val (digs m)).toNat = m := by rw [val_digs]; omega
  have o1 := money_mid hc (z := u) (by omega)
  have o2 := money_mid hc (z := rround (exN u m t) (exD u m t) mode) (by omega)
  rw [R.form]
  show taxOnT [.str c, .bool (decide (u < 0)), .ints (digs u.natAbs)] [.bool false, .ints (digs m), .int (t : Int)] mode = _
  unfold taxOnT
  simp only
  have hv' : ival [.bool (decide (u < 0)), .ints (digs u.natAbs)] = u := hv
  have o1' : moneyOk [.str c, .bool (decide (u < 0)), .ints (digs u.natAbs)] = true := o1
  have hr : rmOk c (exN u m t) (exD u m t) mode = true := by unfold rmOk; rw [hm, o2]; rfl
  rw [hv', hd, Int.toNat_natCast, o1', R.tax]
  unfold rmMoney rmRest
  rw [hr]
  rfl
def VarS (W : World) (r : Nat) (e : TypeId) (cs : List Value) (d : List D0) : Prop := Blk W r e cs /\ Reps W cs d
theorem VarS.ext {W W' : World} {r : Nat} {e : TypeId} {cs : List Value} {d : List D0} (h : VarS W r e cs d) (y : Ext W W') : VarS W' r e cs d := ⟨h.1.ext y, h.2.ext y⟩
theorem cmp_in {u : Int} {m t : Nat} {X : Int} {Y : Nat} {net : Int} (F : InF u m t X Y net) :
    sgn ((net * Y + (X - net * Y) * ((1 : Nat) : Int)) * (1 * (10 ^ t : Nat) + (m : Int) * ((1 : Nat) : Int)) * ((1 : Nat) : Int) - u * ((1 * Y * (1 * 10 ^ t) : Nat) : Int)) = 0 := by
  have e : (net * Y + (X - net * Y) * ((1 : Nat) : Int)) * (1 * (10 ^ t : Nat) + (m : Int) * ((1 : Nat) : Int)) * ((1 : Nat) : Int) - u * ((1 * Y * (1 * 10 ^ t) : Nat) : Int) = 0 := by
    have h1 : net * (Y : Int) + (X - net * Y) * ((1 : Nat) : Int) = X := by
      show net * (Y : Int) + (X - net * Y) * 1 = X
      omega
    have h2 : (1 * ((10 ^ t : Nat) : Int) + (m : Int) * ((1 : Nat) : Int)) = ((10 ^ t + m : Nat) : Int) := by
      show 1 * ((10 ^ t : Nat) : Int) + (m : Int) * 1 = _
      rw [Int.natCast_add]; omega
    rw [h1, h2, F.eqn, Nat.one_mul, Nat.one_mul, Int.natCast_mul]
    show u * ((10 ^ t : Nat) : Int) * (Y : Int) * 1 - u * ((Y : Int) * ((10 ^ t : Nat) : Int)) = 0
    rw [Int.mul_one, Int.mul_assoc, Int.mul_comm ((10 ^ t : Nat) : Int) (Y : Int)]; omega
  rw [e]; rfl
theorem cmp_on {u : Int} {m t : Nat} {X : Int} {Y : Nat} {on : Int} (F : OnF u m t X Y on) :
    sgn ((on * Y + (X - on * Y) * ((1 : Nat) : Int)) * ((1 * 10 ^ t : Nat) : Int) - u * (m : Int) * ((1 * Y : Nat) : Int)) = 0 := by
  have e : (on * Y + (X - on * Y) * ((1 : Nat) : Int)) * ((1 * 10 ^ t : Nat) : Int) - u * (m : Int) * ((1 * Y : Nat) : Int) = 0 := by
    have h1 : on * (Y : Int) + (X - on * Y) * ((1 : Nat) : Int) = X := by
      show on * (Y : Int) + (X - on * Y) * 1 = X
      omega
    rw [h1, Nat.one_mul, Nat.one_mul, F.eqn]; omega
  rw [e]; rfl
end Go.Proofs.YtbgokfhcgcoipaaGreatDoor
namespace Go.Proofs.YtbgokfhcgcoipaaGreatDoor
open Go Go.Proofs.YtbgokfhcgcoipaaGreatDoor.Sx
theorem spec_l01Str_c {w : World} {r n c : Nat} {p : Option Addr} (hc : Cur w r p n c) (hb : ByR w p n) (hne : 0 < n -> ∀ q, p.map (·.block) = some q -> q ≠ r) (hn : n <= 1048576) {b o ln lc : Nat} {ss : List ByteArray} (hs : Seg w b o (ss.map Value.string)) (hbr : b ≠ r) (hl : ss.length = ln) (h0 : 0 < ln) (h1 : ln <= 1000) :
    Ret P n_spec_l01Str [.pointer (some ⟨r, 0, none⟩), .slice (some ⟨b, o, none⟩) ln lc] w fun v w' => ∃ s, v = .string s /\ s ∈ ss /\ Cur w' r p n c /\ Chg [r] w w' := by
  refine spec_l01Str_ret ?_
  unfold spec_l01Str
  refine Ret.at (spec_l01Below_c hc hb hne hn (k := ((ln : Nat) : Int)) (by omega) (by omega)) ?_
  rintro v w1 ⟨z, rfl, z0, z1, hc1, ch1⟩
  have hk : z.toNat < ss.length := by omega
  refine ⟨_, rfl, ⟨z0, z1⟩, ss[z.toNat], (hs.chg ch1 (fun hm => hbr (List.mem_singleton.1 hm))).loadAt z.toNat (by rw [addr_add, Nat.mul_one]) (by kernel_rfl) (by rw [List.getElem?_map, List.getElem?_eq_getElem hk]; rfl), ?_⟩
  exact ⟨_, rfl, List.getElem_mem hk, hc1, ch1⟩
end Go.Proofs.YtbgokfhcgcoipaaGreatDoor
namespace Go.Proofs.YtbgokfhcgcoipaaGreatDoor
open Go Go.Conc Go.Proofs.YtbgokfhcgcoipaaGreatDoor.Sx
def ChO (W : World) (B : Nat) : List Value -> List (Bool × List D0) -> Prop
  | [], [] => True
  | v :: vs, p :: ps => (∃ cs f, v = .agg ⟨cs ++ [.bool p.1]⟩ /\ Owns W B cs p.2 f) /\ ChO W B vs ps
  | _, _ => False
theorem ChO.ext {W W' : World} {B : Nat} : ∀ {vs : List Value} {ps : List (Bool × List D0)}, ChO W B vs ps -> Ext W W' -> ChO W' B vs ps
  | [], [], _, _ => trivial
  | [], _ :: _, h, _ => h.elim
  | _ :: _, [], h, _ => h.elim
  | _ :: _, _ :: _, ⟨⟨cs, f, hv, ho⟩, h⟩, he => ⟨⟨cs, f, hv, ho.ext he⟩, ChO.ext h he⟩
theorem ChO.chg {W W' : World} {B r : Nat} (hr : r < B) : ∀ {vs : List Value} {ps : List (Bool × List D0)}, ChO W B vs ps -> Chg [r] W W' -> ChO W' B vs ps
  | [], [], _, _ => trivial
  | [], _ :: _, h, _ => h.elim
  | _ :: _, [], h, _ => h.elim
  | _ :: _, _ :: _, ⟨⟨cs, f, hv, ho⟩, h⟩, he => ⟨⟨cs, f, hv, ho.chg1 he hr⟩, ChO.chg hr h he⟩
theorem ChO.snoc {W : World} {B : Nat} {cs : List Value} {p : Bool × List D0} {f : List Nat} (ho : Owns W B cs p.2 f) : ∀ {vs : List Value} {ps : List (Bool × List D0)}, ChO W B vs ps -> ChO W B (vs ++ [.agg ⟨cs ++ [.bool p.1]⟩]) (ps ++ [p])
  | [], [], _ => ⟨⟨cs, f, rfl, ho⟩, trivial⟩
  | [], _ :: _, h => h.elim
  | _ :: _, [], h => h.elim
  | _ :: _, _ :: _, ⟨h1, h⟩ => ⟨h1, ChO.snoc ho h⟩
end Go.Proofs.YtbgokfhcgcoipaaGreatDoor
namespace Go.Proofs.YtbgokfhcgcoipaaGreatDoor
open Go Go.Conc Go.Proofs.YtbgokfhcgcoipaaGreatDoor.Sx
def ChP (A : Nat -> Prop) (W : World) : List Value -> List (Bool × List D0) -> Prop
  | [], [] => True
  | v :: vs, p :: ps => (∃ cs f, v = .agg ⟨cs ++ [.bool p.1]⟩ /\ Owns W 0 cs p.2 f /\ ∀ q ∈ f, A q) /\ ChP A W vs ps
  | _, _ => False
theorem ChP.of {W : World} {B : Nat} {A : Nat -> Prop} (hA : ∀ q, B <= q -> q < W.heap.size -> A q) : ∀ {vs : List Value} {ps : List (Bool × List D0)}, ChO W B vs ps -> ChP A W vs ps
  | [], [], _ => trivial
  | [], _ :: _, h => h.elim
  | _ :: _, [], h => h.elim
  | _ :: _, _ :: _, ⟨⟨cs, f, hv, ho⟩, h⟩ => ⟨⟨cs, f, hv, ho.mono (Nat.zero_le _), fun q hq => hA q (ho.lt q hq).1 (ho.lt q hq).2⟩, ChP.of hA h⟩
theorem ChP.ext {A : Nat -> Prop} {W W' : World} : ∀ {vs : List Value} {ps : List (Bool × List D0)}, ChP A W vs ps -> Ext W W' -> ChP A W' vs ps
  | [], [], _, _ => trivial
  | [], _ :: _, h, _ => h.elim
  | _ :: _, [], h, _ => h.elim
  | _ :: _, _ :: _, ⟨⟨cs, f, hv, ho, hf⟩, h⟩, he => ⟨⟨cs, f, hv, ho.ext he, hf⟩, ChP.ext h he⟩
theorem ChP.chg {A : Nat -> Prop} {S : List Nat} {W W' : World} (hS : ∀ q, A q -> q ∉ S) : ∀ {vs : List Value} {ps : List (Bool × List D0)}, ChP A W vs ps -> Chg S W W' -> ChP A W' vs ps
  | [], [], _, _ => trivial
  | [], _ :: _, h, _ => h.elim
  | _ :: _, [], h, _ => h.elim
  | _ :: _, _ :: _, ⟨⟨cs, f, hv, ho, hf⟩, h⟩, he => ⟨⟨cs, f, hv, ho.chg he (fun k hk => hS k (hf k hk)), hf⟩, ChP.chg hS h he⟩
end Go.Proofs.YtbgokfhcgcoipaaGreatDoor
namespace Go.Proofs.YtbgokfhcgcoipaaGreatDoor
open Go Go.Proofs.YtbgokfhcgcoipaaGreatDoor.Sx
def halfC (r d : Nat) : Int := if 2 * r < d then -1 else if 2 * r = d then 0 else 1
def rN (n d : Nat) (m : Int) : Nat := if n % d ≠ 0 /\ modeAway m false (halfC (n % d) d) (decide (n / d % 2 = 1)) = true then n / d + 1 else n / d
section
variable (tx : Nat -> Nat)
def nx (p L : Nat) : Nat := L + tx L - p
def it : Nat -> Nat -> Nat -> Nat
  | 0, _, L => L
  | n + 1, p, L => it n p (nx tx p L)
variable {tx}
end
end Go.Proofs.YtbgokfhcgcoipaaGreatDoor
namespace Go.Proofs.YtbgokfhcgcoipaaGreatDoor.Sx
open Go Go.RowKit
theorem Fl.trans {os : List Obj} {ss : List (Option Nat)} {w : World} {s1 : List (Option Nat)} {w1 : World} {s2 : List (Option Nat)} {w2 : World} (h : Fl os ss w s1 w1) (g : Fl os s1 w1 s2 w2) : Fl os ss w s2 w2 := by
  induction h with
  | refl => exact g
  | step h1 h2 _ ih => exact .step h1 h2 (ih g)
theorem Fl.old {os : List Obj} {ss : List (Option Nat)} {w : World} {s1 : List (Option Nat)} {w1 : World} (h : Fl os ss w s1 w1) {k r : Nat} (hk : s1[k]? = some (some r)) : ss[k]? = some (some r) ∨ w.heap.size <= r := by
  induction h with
  | refl => exact .inl hk
  | step h1 h2 h3 ih =>
    rename_i ss w k' o s' w'
    have hs : (w.alloc o).heap.size = w.heap.size + 1 := by simp
    rcases ih hk with h | h
    · by_cases e : k' = k
      · subst e
        have hl : k' < ss.length := by
          rcases Nat.lt_or_ge k' ss.length with h | h
          · exact h
          · rw [List.getElem?_eq_none h] at h1; cases h1
        rw [List.getElem?_set_self hl] at h
        simp at h
        exact .inr (by omega)
      · rw [List.getElem?_set_ne e] at h
        exact .inl h
    · exact .inr (by omega)
def FlS (os : List Obj) (w0 : World) (ss : List (Option Nat)) (w : World) : Prop :=
 Ext w0 w /\ (∀ (k r : Nat), ss[k]? = some (some r) -> w0.heap.size <= r /\ r < w.heap.size /\ w.heap[r]? = os[k]?) /\ (∀ (k l r : Nat), ss[k]? = some (some r) -> ss[l]? = some (some r) -> k = l)
theorem FlS.ext {os : List Obj} {w0 w w' : World} {ss : List (Option Nat)} (h : FlS os w0 ss w) (y : Ext w w') : FlS os w0 ss w' :=
  ⟨h.1.trans y, fun k r hk => by
    obtain ⟨a, b, c⟩ := h.2.1 k r hk
    exact ⟨a, Nat.lt_of_lt_of_le b y.le, (y.block r b).trans c⟩, h.2.2⟩
theorem FlS.step {os : List Obj} {w0 w w' : World} {ss ss' : List (Option Nat)} (h : FlS os w0 ss w) (f : Fl os ss w ss' w') : FlS os w0 ss' w' := by
  induction f with
  | refl => exact h
  | step h1 h2 h3 ih =>
    rename_i ss w k' o s' w'
    refine ih ?_
    have y : Ext w (w.alloc o) := (Below.refl _ _).alloc (Nat.le_refl _) _
    have hs : (w.alloc o).heap.size = w.heap.size + 1 := by simp
    have hg : (w.alloc o).heap[w.heap.size]? = some o := heap_alloc_new w _
    have hl : k' < ss.length := by
      rcases Nat.lt_or_ge k' ss.length with h | h
      · exact h
      · rw [List.getElem?_eq_none h] at h1; cases h1
    have hx := h.ext y
    have hle := h.1.le
    refine ⟨hx.1, fun k r hk => ?_, fun k l r hk hl' => ?_⟩
    · by_cases e : k' = k
      · subst e
        rw [List.getElem?_set_self hl] at hk
        simp at hk
        subst hk
        exact ⟨hle, by omega, hg.trans h2.symm⟩
      · rw [List.getElem?_set_ne e] at hk
        exact hx.2.1 k r hk
    · by_cases e : k' = k
      · by_cases e2 : k' = l
        · omega
        · subst e
          rw [List.getElem?_set_self hl] at hk
          simp at hk
          subst hk
          rw [List.getElem?_set_ne e2] at hl'
          have := (h.2.1 l _ hl').2.1
          omega
      · rw [List.getElem?_set_ne e] at hk
        by_cases e2 : k' = l
        · subst e2
          rw [List.getElem?_set_self hl] at hl'
          simp at hl'
          subst hl'
          have := (h.2.1 k _ hk).2.1
          omega
        · rw [List.getElem?_set_ne e2] at hl'
          exact h.2.2 k l r hk hl'
theorem FlS.first {os : List Obj} {w0 w : World} {ss0 ss : List (Option Nat)} (f : Fl os ss0 w0 ss w) (h : ss0.all Option.isNone = true) : FlS os w0 ss w := by
  refine FlS.step ⟨Ext.refl _, fun k r hk => ?_, fun k l r hk _ => ?_⟩ f <;>
  · have hm := List.mem_of_getElem? hk
    have := List.all_eq_true.1 h _ hm
    simp at this
theorem FlS.blk {os : List Obj} {w0 w : World} {ss : List (Option Nat)} {k r : Nat} {cs : List Value} {e : TypeId} (h : FlS os w0 ss w) (hk : ss[k]? = some (some r)) (ho : os[k]? = some (.cells ⟨cs⟩ e (0, 0))) : w0.heap.size <= r /\ r < w.heap.size /\ Blk w r e cs := by
  obtain ⟨a, b, c⟩ := h.2.1 k r hk
  exact ⟨a, b, c.trans ho⟩
theorem FlS.ne {os : List Obj} {w0 w : World} {ss : List (Option Nat)} {k l r s : Nat} (h : FlS os w0 ss w) (hk : ss[k]? = some (some r)) (hl : ss[l]? = some (some s)) (e : k ≠ l) : r ≠ s := fun hh => e (h.2.2 k l r hk (hh ▸ hl))
theorem FlS.apart {os : List Obj} {w0 wc we w' : World} {ss ss' : List (Option Nat)} {k r : Nat} (h : FlS os w0 ss wc) (f : Fl os ss we ss' w') (hk : ss'[k]? = some (some r)) : r < wc.heap.size ∨ we.heap.size <= r := by
  rcases f.old hk with a | a
  · exact .inl (h.2.1 k r a).2.1
  · exact .inr a
end Go.Proofs.YtbgokfhcgcoipaaGreatDoor.Sx
namespace Go.Proofs.YtbgokfhcgcoipaaGreatDoor.Sx
open Go Go.RowKit
section
variable (P : Program) (N : Nat) (car : Nat -> List (Nat × VS))
def semX : Code -> QF -> Fr -> World -> Prop
  | .skip, Q, φ, w => Q .normal φ w
  | .region id ops draw, Q, φ, w =>
    match draw with
    | true => cond (P.follows .mixedOrders) (cond (good P ops) (∃ S, dsem P N S ops true (Q .normal) (List.range ops.size) (fun _ => w.drew) φ w.drew)
        (cond (goodF P ops (flo P ops) (piF P ops)) (dsemF P N ops (flo P ops) (Q .normal) (piF P ops) (fun _ => w.drew) (List.replicate (flo P ops).length none) φ w.drew) False)) False
    | false => match panOf ops with
      | none => dsem P N [] ops false (Q .normal) (List.range ops.size) (fun _ => w) φ w
      | some x => dsem P N [] ops false (panQ x Q) (List.range (ops.size - 1)) (fun _ => w) φ w
  | .seq x y, Q, φ, w => semX x (thenQ (semX y Q) Q) φ w
  | .cond c x y, Q, φ, w => match ev φ c with
    | .bool b => (b = true -> semX x Q φ w) /\ (b = false -> semX y Q φ w)
    | _ => False
  | .block id c, Q, φ, w => semX c (blockQ id Q) φ w
  | .scope c, Q, φ, w => semX c (scopeQ Q) φ w
  | .loop c, Q, φ, w =>
    ∃ (I : TyT ((car (keyOf c)).map (·.2)) (World -> Prop)) (μ : TyT ((car (keyOf c)).map (·.2)) (World -> Nat)),
      holds ((car (keyOf c)).map (·.2)) I ((car (keyOf c)).map fun x => φ x.1) w /\
      ∀ (ζ : Fr) (w : World), allT ((car (keyOf c)).map (·.2)) fun vs => holds ((car (keyOf c)).map (·.2)) I vs w ->
        semX c (thenQ (fun φ' w' => holds ((car (keyOf c)).map (·.2)) I ((car (keyOf c)).map fun x => φ' x.1) w' /\
          meas ((car (keyOf c)).map (·.2)) μ ((car (keyOf c)).map fun x => φ' x.1) w' < meas ((car (keyOf c)).map (·.2)) μ vs w) Q)
          (havoc (dstsOf c) (car (keyOf c)) vs ζ φ) w
  | .exit id, Q, φ, w => Q (.exit id) φ w
  | .ret, Q, φ, w => Q .ret φ w
  | .label _, Q, φ, w => Q .normal φ w
  | _, _, _, _ => False
variable {P N car}
theorem semA_of_semX : ∀ (c : Code) (Q : QF) (φ : Fr) (w : World), semX P N car c Q φ w -> semA P N c Q φ w
  | .skip, Q, φ, w, h => h
  | .region id ops draw, Q, φ, w, h => by
    cases draw with
    | false =>
      simp only [semX] at h
      simp only [semA]
      cases hp : panOf ops with
      | none => rw [hp] at h; exact dsem_sqP P N _ _ _ _ h
      | some x => rw [hp] at h; exact dsem_sqP P N _ _ _ _ h
    | true =>
      simp only [semX] at h
      cases hm : P.follows .mixedOrders with
      | false => rw [hm] at h; exact h.elim
      | true =>
        rw [hm] at h
        refine ⟨hm, ?_⟩
        cases hc : good P ops with
        | true =>
          rw [hc] at h
          exact .inl ⟨rfl, h.elim fun S h => ⟨S, dsem_drP P N _ _ _ _ h⟩⟩
        | false =>
          rw [hc] at h
          cases hd : goodF P ops (flo P ops) (piF P ops) with
          | true => rw [hd] at h; exact .inr ⟨rfl, dsemF_dF P N _ _ _ _ _ h⟩
          | false => rw [hd] at h; exact h.elim
  | .seq x y, Q, φ, w, h => by
    have h1 := semA_of_semX x (thenQ (semX P N car y Q) Q) φ w h
    show semA P N x (thenQ (semA P N y Q) Q) φ w
    refine semA_mono (fun e φ' w' hq => ?_) h1
    cases e with
    | normal => exact semA_of_semX y _ _ _ hq
    | _ => exact hq
  | .cond c x y, Q, φ, w, h => by
    simp only [semX] at h
    split at h
    · rename_i b hb
      exact ⟨b, hb, fun e => semA_of_semX x _ _ _ (h.1 e), fun e => semA_of_semX y _ _ _ (h.2 e)⟩
    · exact h.elim
  | .block id c, Q, φ, w, h => semA_of_semX c _ φ w h
  | .loop c, Q, φ, w, h => by
    obtain ⟨I, μ, h0, hr⟩ := h
    refine ⟨fun φ w => holds _ I ((car (keyOf c)).map fun x => φ x.1) w, fun φ w => meas _ μ ((car (keyOf c)).map fun x => φ x.1) w, h0, ?_⟩
    intro ψ w1 hJ hψ
    have h1 := hr ψ w1
    have h2 : ∃ g, appT ((car (keyOf c)).map (·.2)) I ((car (keyOf c)).map fun x => ψ x.1) = some g := by
      unfold holds at hJ
      split at hJ
      · rename_i g hg; exact ⟨g, hg⟩
      · exact hJ.elim
    obtain ⟨g, hg⟩ := h2
    have h3 := allT_app hg h1 hJ
    rw [havoc_eq hψ] at h3
    exact semA_of_semX c _ ψ w1 h3
  | .exit id, Q, φ, w, h => h
  | .ret, Q, φ, w, h => h
  | .label _, Q, φ, w, h => h
  | .goto _, _, _, _, hs => hs.elim
  | .scope c, Q, φ, w, h => semA_of_semX c _ φ w h
  | .rangeFunc _ _ _ _, _, _, _, hs => hs.elim
  | .refuse _, _, _, _, hs => hs.elim
end
def fsemX (P : Program) (fn : Func) (car : Nat -> List (Nat × VS)) (args : List Value) (R : Value -> World -> Prop) (w : World) : Prop :=
  match fn.body with
  | some c => semX P fn.ntmps car c (bodyQ P fn R) (initF args) w
  | none => False
theorem Ret.of_fsemX {P : Program} {f : FuncId} {fn : Func} {car : Nat -> List (Nat × VS)} {args : List Value} {w : World} {R : Value -> World -> Prop}
    (hf : P.funcs[f]? = some fn) (hlen : Nat.ble args.length fn.ntmps = true) (h : fsemX P fn car args R w) : Ret P f args w R := by
  unfold fsemX at h
  split at h
  · rename_i c hb
    refine calls_of_wp hf hb ?_
    have hlen' : args.length <= fn.ntmps := Nat.le_of_ble_eq_true hlen
    refine wp_of_semA c (bodyQ P fn R) _ (initF args) _ w (initF_fits hlen') (fun e φ a w' hfit hq => ?_) (semA_of_semX c _ _ _ h)
    have key : resT P φ w' fn.results.toList (fun vs => R (retV vs) w') -> a.defers = [] /\ ∃ v, (results fn a.tmps).run P w' = .ok v w' /\ ∃ u, Ending.returned v = .returned u /\ R u w' := by
      intro hq
      obtain ⟨vs, hk, hr⟩ := resT_sound hfit _ _ hq
      refine ⟨hfit.defers, retV vs, ?_, _, rfl, hk⟩
      rw [results_eq, Array.mapM_eq_mapM_toList]
      simp only [Sem.run_bind, Sem.run_map, hr, Result.andThen_ok, Sem.run_pure]
      match vs with
      | [] => simp [retV]
      | [v] => simp [retV]
      | _ :: _ :: _ => simp [retV]
    cases e with
    | normal => exact key hq
    | ret => exact key hq
    | _ => exact hq.elim
  · exact h.elim
end Go.Proofs.YtbgokfhcgcoipaaGreatDoor.Sx
namespace Go.Proofs.YtbgokfhcgcoipaaGreatDoor
variable {w : World} {R : Value -> World -> Prop}
open Go Go.Proofs.YtbgokfhcgcoipaaGreatDoor.Sx
set_option maxRecDepth 100000
def spec_MakeMoneys_x (a0 : Option Addr) (a1 a2 : Nat) (w : World) (R : Value -> World -> Prop) : Prop :=
 ∀ r wv, New w (.cells ⟨[.string ByteArray.empty, .bool false, .slice none 0 0]⟩ 33 (0, 0)) r wv ->
 ∀ a3 a4, New wv (.cells ⟨[.string ByteArray.empty, .bool false, .slice none 0 0]⟩ 33 (0, 0)) a3 a4 ->
 Calls P 81 ⟨[.slice a0 a1 a2]⟩ a4 fun e a5 =>
 ∃ t8, e = .returned (.pointer t8) /\
 Calls P 100 ⟨[]⟩ a5 fun a6 a7 =>
 ∃ a8 a9 aa, a6 = .returned (.slice a8 a9 aa) /\
 Calls P 99 ⟨[(.pointer t8), .slice a8 a9 aa]⟩ a7 fun ab ac =>
 ∃ ae, ab = .returned (.string ae) /\
 Calls P 101 ⟨[(.pointer t8), .int .i64 3]⟩ ac fun af ag =>
 ∃ ah ai aj ak, af = .returned (.agg #[.bool ah, .slice ai aj ak]) /\
 ∀ al am, New ag (.cells ⟨[.string ByteArray.empty, .bool false, .slice none 0 0]⟩ 33 (0, 0)) al am ->
 ∃ wv_7, Stores P 33 ⟨al, 0, none⟩ (.agg #[.string ae, .bool ah, .slice ai aj ak]) am wv_7 /\
 ∃ blks : List Nat, ∃ an ao ap aq ar, (∀ wv_8, EX blks wv_7.drew wv_8 -> Loads P 33 ⟨al, 0, none⟩ (.agg #[.string an, .bool ao, .slice ap aq ar]) wv_8) /\ Calls P 101 ⟨[(.pointer t8), .int .i64 3]⟩ wv_7.drew fun au av =>
 ∃ aw ax ay az, au = .returned (.agg #[.bool aw, .slice ax ay az]) /\
 EX blks wv_7.drew av /\ ∃ wv_10, Stores P 33 ⟨r, 0, none⟩ (.agg #[.string an, .bool ao, .slice ap aq ar]) av wv_10 /\
 ∃ wv_11, Stores P 33 ⟨a3, 0, none⟩ (.agg #[.string ae, .bool aw, .slice ax ay az]) wv_10 wv_11 /\
 ∃ r0 r1 b0 b1 b2, Loads P 33 ⟨r, 0, none⟩ (.agg #[.string r0, .bool r1, .slice b0 b1 b2]) wv_11 /\ ∃ r0_1 r1_1 b3 b4 b5, Loads P 33 ⟨a3, 0, none⟩ (.agg #[.string r0_1, .bool r1_1, .slice b3 b4 b5]) wv_11 /\ R (.tuple #[.agg #[.string r0, .bool r1, .slice b0 b1 b2], .agg #[.string r0_1, .bool r1_1, .slice b3 b4 b5]]) wv_11
theorem spec_MakeMoneys_x_eq (code_p : Option Addr) (code_n : Nat) (code_c : Nat) (w : World) (R : Value -> World -> Prop) : spec_MakeMoneys_x code_p code_n code_c w R = fsemX P Tryz.f27 (fun k => []) [(.slice code_p code_n code_c)] R w := by kernel_rfl
theorem spec_MakeMoneys_x_ret {a : Option Addr} {a0 a1 : Nat} (h : spec_MakeMoneys_x a a0 a1 w R) : Ret P 27 [.slice a a0 a1] w R := Ret.of_fsemX Tryz.func27 rfl (Eq.mp (spec_MakeMoneys_x_eq a a0 a1 w R) h)
end Go.Proofs.YtbgokfhcgcoipaaGreatDoor
namespace Go.Proofs.YtbgokfhcgcoipaaGreatDoor
open Go Go.Proofs.YtbgokfhcgcoipaaGreatDoor.Sx
theorem chg_fresh {S T : List Nat} {a b c : World} (h : Chg S a b) (k : Chg T b c) (hT : ∀ q ∈ T, a.heap.size <= q) : Chg S a c := by
  refine ⟨k.os.trans h.os, k.tape.trans h.tape, k.output.trans h.output, Nat.le_trans h.size k.size, fun q hq hm => ?_⟩
  rw [k.block q (Nat.lt_of_lt_of_le hq h.size) (fun h7 => by have := hT q h7; omega)]
  exact h.block q hq hm
theorem Cur.keep {W W' : World} {r n c : Nat} {p : Option Addr} {T : List Nat} (h : Cur W r p n c) (k : Chg T W W') (hT : r ∉ T) : Cur W' r p n c := by
  obtain ⟨e, i, x, g1, g2⟩ := h
  exact ⟨e, i, x, g1, g2.chg k hT⟩
theorem capL_fits {n : Nat} (h : (digs n).length <= 50) : capL (digs n) = digs n := if_pos h
theorem spec_l01Once_c {w : World} {r n c : Nat} {p : Option Addr} (hc : Cur w r p n c) (hb : ByR w p n) (hne : 0 < n -> ∀ q, p.map (·.block) = some q -> q ≠ r) (hn : n <= 1048576) {k : Int} (hk : 0 < k) (hk2 : k <= 1000000000) :
    Ret P n_spec_l01Once [.pointer (some ⟨r, 0, none⟩), .int .i64 k] w fun v w' => ∃ b, v = .bool b /\ Cur w' r p n c /\ Chg [r] w w' := by
  refine spec_l01Once_ret ?_
  unfold spec_l01Once
  refine Ret.at (spec_l01Below_c hc hb hne hn hk hk2) ?_
  rintro v w1 ⟨z, rfl, z0, z1, hc1, ch1⟩
  exact ⟨_, rfl, _, rfl, hc1, ch1⟩
theorem spec_l02Nat_c {w : World} {r n c : Nat} {p : Option Addr} (hc : Cur w r p n c) (hb : ByR w p n) (hne : 0 < n -> ∀ q, p.map (·.block) = some q -> q ≠ r) (hn : n <= 1048576) :
    Ret P n_spec_l02Nat [.pointer (some ⟨r, 0, none⟩), .int .i64 3] w fun v w' => ∃ p' n' c' zs, v = .slice p' n' c' /\ IntsR w' p' n' c' zs /\ Limbs zs /\ val zs < 1000000000000000000000000000 /\ Cur w' r p n c /\ Chg [r] w w' := by
  refine spec_l02Nat_ret ?_
  unfold spec_l02Nat
  intro r0 w1 hn1
  have e1 := hn1.r_eq; have s1 := hn1.size; have hlt := hc.lt
  refine exW ⟨by omega, by omega⟩ ?_
  refine Ret.at (spec_l01Below_c (hc.ext hn1.ext) (hb.ext hn1.ext) hne hn (k := 3 + 1) (by decide) (by decide)) ?_
  rintro v w2 ⟨k, rfl, k0, k1, hc2, ch2⟩
  refine ⟨_, rfl, fun ap an ac j W => ∃ zs : List Int, 0 <= j /\ j <= k /\ (an : Int) + j <= 3 /\ Own W w.heap.size T_int 1 ap an ac (zs.map (Value.int .i64)) /\ zs.length = an /\ Limbs zs /\ Cur W r p n c /\ Chg [r] w W, fun _ _ _ j _ => j.toNat,
    ⟨[], k0, by omega, by show ((0 : Nat) : Int) + k <= 3; omega, ?_, rfl, (fun x hx => by simp at hx), hc2, hn1.ext.toChg.trans ch2⟩, ?_⟩
  · exact Own.of_blk0 (hn1.blk.chg ch2 (fun hm => by have := List.mem_singleton.1 hm; omega)) (by omega) (by simp) (by decide)
  rintro junk W ap an ac j ⟨zs, j0, j1, j2, hO, hzl, hL, hcW, hX⟩
  have lW := hX.size
  have hbW := hb.chg hX hne
  have pa : ∀ q ∈ (ap.map (·.block)).toList, w.heap.size <= q /\ q < W.heap.size := fun q hq => World.ownsRow.lt hO q (by cases ap <;> simp_all [Value.ownBlock])
  refine ifD (fun hlt2 => ?_) (fun hge => ?_)
  · refine Ret.at (spec_l01Below_c hcW hbW hne hn (k := 1000000000) (by decide) (by decide)) ?_
    rintro v w3 ⟨x1, rfl, a0, a1, hc3, ch3⟩
    refine ⟨_, rfl, ?_⟩
    refine Ret.at (spec_l01Below_c hc3 (hbW.chg ch3 hne) hne hn (k := 1000000000) (by decide) (by decide)) ?_
    rintro v w4 ⟨x2, rfl, b0, b1, hc4, ch4⟩
    refine ⟨_, rfl, ?_⟩
    have C4 := ch3.trans ch4
    intro r1 w5 hn5
    have e5 := hn5.r_eq; have s5 := hn5.size; have z4 := C4.size
    have hl7 : IntsR w5 (some ⟨r1, 0, none⟩) 7 7 [0, 1, 2, 999999999, 500000000, x1, x2] := by
      have := Own.of_blk (base := 0) (size := 1) (n := 7) hn5.blk (Nat.zero_le _) rfl (by decide)
      exact Own.ints (zs := [0, 1, 2, 999999999, 500000000, x1, x2]) this
    refine Ret.at (spec_l01Pick_c (hc4.ext hn5.ext) ((hbW.chg C4 hne).ext hn5.ext) hne hn hl7 (fun q hq => by simp only [Option.map_some, Option.some.injEq] at hq; omega) (by decide) (by decide)) ?_
    rintro v w6 ⟨z, rfl, hz, hc6, ch6⟩
    have hzb : 0 <= z /\ z < 1000000000 := by
      simp only [List.mem_cons, List.not_mem_nil, or_false] at hz
      omega
    refine ⟨_, rfl, ?_⟩
    intro r2 w7 hn7
    have e7 := hn7.r_eq; have s7 := hn7.size; have z6 := ch6.size
    have C7 : Chg [r] W w7 := ((C4.trans hn5.ext.toChg).trans ch6).trans hn7.ext.toChg
    have hO7 := hO.chg C7 (fun q hq hm => by
      have := pa q (by rw [hq]; simp)
      have := List.mem_singleton.1 hm; omega)
    obtain ⟨p8, c8, w8, a8, o8, ch8, d8⟩ := hO7.push1 (P := P) sliceT_int (by omega) hn7.blk rfl (by simp [Value.oneCell']) (by omega) (by omega)
    refine ⟨p8, an + 1, c8, w8, a8, exW ⟨by omega, by omega⟩ ⟨⟨zs ++ [z], by omega, by omega, by push_cast; omega, by simpa using o8, by simp [hzl], ?_, ?_, ?_⟩, by show (j - 1).toNat < j.toNat; omega⟩⟩
    · intro x hx
      rcases List.mem_append.1 hx with hx | hx
      · exact hL x hx
      · rw [List.mem_singleton] at hx; subst hx; exact hzb
    · exact (hc6.ext hn7.ext).keep ch8 (fun hm => by have := (pa r hm).1; omega)
    · exact chg_fresh (hX.trans C7) ch8 (fun q hq => (pa q hq).1)
  · refine Ret.at (spec_l02Trim_c (Own.ints (zs := zs) hO)) ?_
    rintro v w9 ⟨rfl, hw, hi⟩
    subst hw
    have hte := trimL_eq hL
    have hv := val_lt hL
    have hnn := val_nonneg hL
    refine ⟨_, _, _, rfl, _, _, _, _, rfl, hi, ?_, ?_, hcW, hX⟩
    · rw [hte]; exact digs_limbs _
    · rw [hte, val_digs]
      have hlen : zs.length <= 3 := by omega
      have h2 : ((1000000000 : Int) ^ zs.length) <= 1000000000000000000000000000 := by
        have h3 : zs.length = 0 ∨ zs.length = 1 ∨ zs.length = 2 ∨ zs.length = 3 := by omega
        rcases h3 with h3 | h3 | h3 | h3 <;> rw [h3] <;> decide
      omega
theorem spec_l04Draw_c {w : World} {r n c : Nat} {p : Option Addr} (hc : Cur w r p n c) (hb : ByR w p n) (hne : 0 < n -> ∀ q, p.map (·.block) = some q -> q ≠ r) (hn : n <= 1048576) :
    Ret P n_spec_l04Draw [.pointer (some ⟨r, 0, none⟩), .int .i64 3] w fun v w' => ∃ (z : Int) (vs : List Value) (f : List Nat), v = .agg ⟨vs⟩ /\ z.natAbs < 1000000000000000000000000000 /\ Owns w' w.heap.size vs (enc z) f /\ Cur w' r p n c /\ Chg [r] w w' := by
  refine spec_l04Draw_ret ?_
  unfold spec_l04Draw
  intro r0 w1 hn1
  have e1 := hn1.r_eq; have s1 := hn1.size; have hlt := hc.lt
  refine Ret.at (spec_l01Once_c (hc.ext hn1.ext) (hb.ext hn1.ext) hne hn (k := 3) (by decide) (by decide)) ?_
  rintro v w2 ⟨b, rfl, hc2, ch2⟩
  have C2 : Chg [r] w w2 := hn1.ext.toChg.trans ch2
  have b0 := hn1.blk.chg ch2 (fun hm => by have := List.mem_singleton.1 hm; omega)
  have z2 := C2.size
  have fin : ∀ (W : World) (z : Int) (vs : List Value) (f : List Nat), z.natAbs < 1000000000000000000000000000 -> Owns W w2.heap.size vs (enc z) f -> Cur W r p n c -> Chg [r] w2 W -> ∃ a0 ap an ac, vs = [.bool a0, .slice ap an ac] /\ ∃ W', Stores P T_impl_Signed ⟨r0, 0, none⟩ (.agg ⟨[.bool a0, .slice ap an ac]⟩) W W' /\
      Loads P T_impl_Signed ⟨r0, 0, none⟩ (.agg ⟨[.bool a0, .slice ap an ac]⟩) W' /\ ∃ (z : Int) (vs : List Value) (f : List Nat), (Value.agg ⟨[.bool a0, .slice ap an ac]⟩) = .agg ⟨vs⟩ /\ z.natAbs < 1000000000000000000000000000 /\ Owns W' w.heap.size vs (enc z) f /\ Cur W' r p n c /\ Chg [r] w W' := by
    intro W z vs f hz ho hcW hX
    obtain ⟨a0, ap, an, ac, az, rfl, _, _⟩ := open_Signed ho.reps (enc_code _)
    obtain ⟨w7, st7, hb7, ch7, _⟩ := (b0.chg hX (fun hm => by have := List.mem_singleton.1 hm; omega)).storeA0 (P := P) (t := T_impl_Signed) (xs := [.bool a0, .slice ap an ac]) (by kernel_rfl) rfl ho.reps.cells1
    have lt := ho.lt
    refine ⟨a0, ap, an, ac, rfl, w7, st7, hb7.loadA0 (by kernel_rfl), z, _, f, rfl, hz, ((ho.chg ch7 (fun q hq hm => by have := (lt q hq).1; have := List.mem_singleton.1 hm; have := b0.lt; omega)).mono (by omega)), hcW.keep ch7 (fun hm => by have := List.mem_singleton.1 hm; omega), ?_⟩
    exact chg_fresh (C2.trans hX) ch7 (fun q hq => by have := List.mem_singleton.1 hq; omega)
  refine ⟨_, rfl, fun _ => ?_, fun _ => ?_⟩
  · refine Ret.at (spec_l01Below_c hc2 (hb.chg C2 hne) hne hn (k := 2001) (by decide) (by decide)) ?_
    rintro v w3 ⟨z, rfl, z0, z1, hc3, ch3⟩
    refine ⟨_, rfl, exW ⟨by omega, by omega⟩ ?_⟩
    refine Ret.at (spec_IntOf_c (n := z - 1000) (by omega) (by omega)) ?_
    rintro v w4 ⟨vs4, f4, hv, ho4, _, y4⟩
    subst hv
    have z3 := ch3.size
    obtain ⟨a0, ap, an, ac, rfl, W', h1, h2, h3⟩ := fin w4 (z - 1000) _ f4 (by omega) (ho4.mono z3) (hc3.ext y4) (ch3.trans y4.toChg)
    exact ⟨_, _, _, _, rfl, W', h1, _, _, _, _, h2, h3⟩
  · refine Ret.at (spec_l01Once_c hc2 (hb.chg C2 hne) hne hn (k := 2) (by decide) (by decide)) ?_
    rintro v w3 ⟨neg, rfl, hc3, ch3⟩
    refine ⟨_, rfl, ?_⟩
    have C3 := C2.trans ch3
    refine Ret.at (spec_l02Nat_c hc3 (hb.chg C3 hne) hne hn) ?_
    rintro v w4 ⟨p4, n4, c4, zs, rfl, hi4, hL4, hv4, hc4, ch4⟩
    refine ⟨_, _, _, rfl, ?_⟩
    refine Ret.at (spec_l04Make_c hi4 hL4) ?_
    rintro v w5 ⟨b5, p5, n5, c5, hv, hb5, o5, y5⟩
    subst hv
    have hnn := val_nonneg hL4
    obtain ⟨m, hm⟩ : ∃ m : Nat, val zs = m := ⟨(val zs).toNat, by omega⟩
    rw [hm, Int.toNat_natCast] at hb5 o5
    have hdl : (digs m).length <= 3 := digs_len 3 (by omega)
    rw [capL_fits (by omega)] at hb5 o5
    have z3 := ch3.size; have z4 := ch4.size
    obtain ⟨zz, hzz, hze⟩ : ∃ zz : Int, zz.natAbs = m /\ b5 = decide (zz < 0) := by
      rw [isEmpty_digs] at hb5
      cases neg with
      | false => exact ⟨m, by simp, by rw [hb5]; simp⟩
      | true =>
        by_cases h0 : m = 0
        · subst h0; exact ⟨0, rfl, by rw [hb5]; rfl⟩
        · refine ⟨-(m : Int), by simp, ?_⟩
          rw [hb5, decide_eq_false h0, decide_eq_true (show -(m : Int) < 0 by omega)]; rfl
    have ho5 : Owns w5 w4.heap.size [.bool b5, .slice p5 n5 c5] (enc zz) (p5.map (·.block)).toList := by
      unfold enc
      rw [hzz, <- hze]
      exact Owns.append (Owns.bool _ _ b5) (Owns.ints o5)
    obtain ⟨a0, ap, an, ac, he, W', h1, h2, h3⟩ := fin w5 zz _ _ (by omega) (ho5.mono (by omega)) (hc4.ext y5) ((ch3.trans ch4).trans y5.toChg)
    simp only [List.cons.injEq, Value.bool.injEq, Value.slice.injEq, and_true] at he
    obtain ⟨rfl, rfl, rfl, rfl⟩ := he
    exact ⟨_, _, _, _, rfl, W', h1, _, _, _, _, h2, h3⟩
theorem sliceT_strs : sliceT P T_s_string T_string (.string ByteArray.empty) 1 16 := ⟨by kernel_rfl, by kernel_rfl, rfl, by decide⟩
def codes20 : List ByteArray := specTab.map fun r => r.1
theorem codes20_known : ∀ c ∈ codes20, curKnown c = true := by decide +kernel
theorem spec_Curs_c (w : World) : Ret P n_spec_Curs [] w fun v w' => ∃ b o c, v = .slice (some ⟨b, o, none⟩) 20 c /\ w.heap.size <= b /\ Seg w' b o (codes20.map Value.string) /\ Ext w w' := by
  have hlen := spec_length
  refine spec_Curs_ret ?_
  unfold spec_Curs
  intro r0 w1 hn1
  have e1 := hn1.r_eq; have s1 := hn1.size
  refine Ret.at (R := fun v w' => ∃ r, v = .slice (some ⟨r, 0, none⟩) 20 20 /\ Seg w' r 0 (specTab.flatMap curCells) /\ (w1.heap.size <= r /\ r < w'.heap.size) /\ Ext w1 w') ?_ ?_
  · refine spec_l08Table_ret ?_
    unfold spec_l08Table
    intro r2 w2 hn2
    exact ⟨r2, rfl, hn2.blk.seg, ⟨by have := hn2.r_eq; omega, hn2.blk.lt⟩, hn2.ext⟩
  rintro v w2 ⟨r2, hv, hseg, hr2', y2⟩
  subst hv
  refine ⟨_, _, _, rfl, ?_⟩
  have hr2 : w1.heap.size <= r2 /\ r2 < w2.heap.size := hr2'
  refine ⟨fun op on oc i W => ∃ j : Nat, i = j /\ j <= 20 /\ on = j /\ Own W w.heap.size T_string 1 op on oc ((codes20.take j).map Value.string) /\ Seg W r2 0 (specTab.flatMap curCells) /\ (∀ q ∈ (op.map (·.block)).toList, q ≠ r2) /\ r2 < W.heap.size /\ Ext w W, fun _ _ _ i _ => 20 - i.toNat, ⟨0, rfl, by omega, rfl, Own.of_blk0 (hn1.blk.ext y2) (by omega) (by simp) (by decide), hseg, fun q hq => by have h5 : q = r0 := List.mem_singleton.1 hq; omega, hr2.2, hn1.ext.trans y2⟩, ?_⟩
  rintro junk W op on oc i ⟨j, rfl, hj, rfl, hO, hsg, hq2, hlt2, hx⟩
  have pa : ∀ q ∈ (op.map (·.block)).toList, w.heap.size <= q /\ q < W.heap.size := fun q hq => World.ownsRow.lt hO q (by cases op <;> simp_all [Value.ownBlock])
  have lW := hx.le
  refine ifD (fun hlt => ?_) (fun hge => ?_)
  · have hjl : on < specTab.length := by omega
    have hrow : Seg W r2 (0 + on * 4) (curCells (specTab[on]'hjl)) := by
      rw [<- flat_row specTab on hjl]
      exact (hsg.drop (on * 4)).take 4
    refine ⟨⟨by omega, by omega⟩, _, _, _, _, (by simp only [addr_add, Int.toNat_natCast]; exact loadsA (cs := curCells (specTab[on]'hjl)) (by kernel_rfl) hrow), ?_⟩
    intro r1 w3 hn3
    obtain ⟨w4, st, hb4, y4⟩ := hn3.fill (P := P) (t := T_spec_l08Row) (xs := curCells (specTab[on]'hjl)) (by simp [curCells, Value.oneCell']) (by kernel_rfl) rfl
    refine ⟨w4, st, _, hb4.loadAt 0 rfl (by kernel_rfl) rfl, ?_⟩
    intro r3 w5 hn5
    have l4 := y4.le; have l5 := hn5.ext.le
    obtain ⟨p8, c8, w8, a8, o8, ch8, d8⟩ := ((hO.ext y4).ext hn5.ext).push1 (P := P) sliceT_strs (by omega) hn5.blk rfl (by simp [Value.oneCell']) (by omega) (by omega)
    have hcj : (codes20.take (on + 1)).map Value.string = (codes20.take on).map Value.string ++ [.string (specTab[on]'hjl).1] := by
      unfold codes20
      rw [List.take_succ_eq_append_getElem (by simpa using hjl), List.map_append, List.getElem_map]; rfl
    refine ⟨p8, on + 1, c8, w8, a8, exW ⟨by omega, by omega⟩ ⟨⟨on + 1, by omega, by omega, rfl, by rw [hcj]; exact o8, ((hsg.ext y4).ext hn5.ext).chg ch8 (fun hm => hq2 r2 hm rfl), ?_, ?_, ((hx.trans y4).trans hn5.ext).chg ch8 (fun q hq => (pa q hq).1)⟩, by show 20 - ((on : Int) + 1).toNat < 20 - (on : Int).toNat; omega⟩⟩
    · intro q hq
      rcases d8 with d8 | d8
      · rw [d8] at hq; exact hq2 q hq
      · have := d8 q (by simpa using hq); omega
    · have := ch8.size; omega
  · have hon : on = 20 := by omega
    subst hon
    obtain ⟨b, hp, hbB, hs⟩ := hO.seg (by decide)
    have hct : codes20.take 20 = codes20 := List.take_of_length_le (by unfold codes20; rw [List.length_map]; omega)
    rw [hct] at hs
    subst hp
    exact ⟨b, 0, oc, rfl, hbB, hs, hx⟩
theorem spec_MakeMoneys_c {w : World} {p : Option Addr} {n c : Nat} (h : ByR w p n) (hn : n <= 1048576) : Ret P n_spec_MakeMoneys [.slice p n c] w fun v w' => ∃ (cur : ByteArray) (u u2 : Int) (vs vs2 : List Value), v = .tuple #[.agg ⟨vs⟩, .agg ⟨vs2⟩] /\ curKnown cur = true /\ u.natAbs < 1000000000000000000000000000 /\ Reps w' vs (.str cur :: enc u) /\ Reps w' vs2 (.str cur :: enc u2) /\ Ext w w' := by
  refine spec_MakeMoneys_x_ret ?_
  unfold spec_MakeMoneys_x
  intro r0 w1 hn1 r1 w2 hn2
  have e1 := hn1.r_eq; have e2 := hn2.r_eq; have s1 := hn1.size; have s2 := hn2.size
  have X2 := hn1.ext.trans hn2.ext
  refine Ret.at (spec_l01New_c (h.ext X2) hn) ?_
  rintro v w3 ⟨rc, rfl, hr, hc, y3⟩
  have hne : 0 < n -> ∀ q, p.map (·.block) = some q -> q ≠ rc := h.ne (by omega)
  have X3 := X2.trans y3
  refine ⟨_, rfl, ?_⟩
  refine Ret.at (spec_Curs_c w3) ?_
  rintro v w4 ⟨b4, o4, c4, rfl, hb4, hs4, y4⟩
  have X4 := X3.trans y4
  have l3 := y3.le; have l4 := y4.le; have hlt := hc.lt
  refine ⟨_, _, _, rfl, ?_⟩
  refine Ret.at (spec_l01Str_c (hc.ext y4) (h.ext X4) hne hn hs4 (by omega) (by unfold codes20; rw [List.length_map]; exact spec_length) (by decide) (by decide)) ?_
  rintro v w5 ⟨cur, rfl, hcur, hc5, ch5⟩
  have sing : ∀ q, q ∈ [rc] -> w.heap.size <= q := fun q hq => by have := List.mem_singleton.1 hq; omega
  have X5 : Ext w w5 := X4.chg ch5 sing
  refine ⟨_, rfl, ?_⟩
  have z5 := ch5.size
  refine Ret.at (spec_l04Draw_c hc5 (h.ext X5) hne hn) ?_
  rintro v w6 ⟨u, vs6, f6, rfl, hu, ho6, hc6, ch6⟩
  have X6 : Ext w w6 := X5.chg ch6 sing
  have z6 := ch6.size
  obtain ⟨a0, ap, an, ac, az, rfl, _, _⟩ := open_Signed ho6.reps (enc_code _)
  refine ⟨_, _, _, _, rfl, ?_⟩
  intro r2 w7 hn7
  have e7 := hn7.r_eq; have s7 := hn7.size
  have how : Owns w6 w5.heap.size [.string cur, .bool a0, .slice ap an ac] (.str cur :: enc u) f6 := by
    have := Owns.append (Owns.str w6 w5.heap.size cur) ho6
    simpa using this
  obtain ⟨w8, st8, b8, y8⟩ := hn7.fill (P := P) (t := T_impl_Money) how.reps.cells1 (by kernel_rfl) rfl
  have D := Ext.drew w8
  have X8 := X6.trans (y8.trans D)
  have l8 := y8.le
  have lt6 := ho6.lt
  have oW := (how.ext y8).ext D
  have hr2c : r2 ≠ rc := by have := hc6.lt; omega
  refine ⟨w8, st8, [rc], _, _, _, _, _, fun W hW => ((b8.ext D).chg (show Chg [rc] w8.drew W from hW) (fun hm => hr2c (List.mem_singleton.1 hm))).loadA0 (by kernel_rfl), ?_⟩
  refine Ret.at (spec_l04Draw_c ((hc6.ext y8).ext D) (h.ext X8) hne hn) ?_
  rintro v w9 ⟨u2, vs9, f9, rfl, hu2, ho9, hc9, ch9⟩
  have X9 : Ext w w9 := X8.chg ch9 sing
  have z9 := ch9.size
  have lD := D.le
  obtain ⟨g0, gp, gn, gc, gz, rfl, _, _⟩ := open_Signed ho9.reps (enc_code _)
  have how2 : Owns w9 w8.drew.heap.size [.string cur, .bool g0, .slice gp gn gc] (.str cur :: enc u2) f9 := by
    have := Owns.append (Owns.str w9 w8.drew.heap.size cur) ho9
    simpa using this
  have o9 := oW.chg ch9 (fun q hq hm => by have := (lt6 q hq).1; have := List.mem_singleton.1 hm; have := hc5.lt; omega)
  have lt9 := ho9.lt
  have b0 := (((hn1.blk.ext hn2.ext).ext y3).ext y4).chg ch5 (fun hm => by have := List.mem_singleton.1 hm; omega)
  have b0 := (((b0.chg ch6 (fun hm => by have := List.mem_singleton.1 hm; omega)).ext y8).ext D).chg ch9 (fun hm => by have := List.mem_singleton.1 hm; omega)
  have b1 := ((hn2.blk.ext y3).ext y4).chg ch5 (fun hm => by have := List.mem_singleton.1 hm; omega)
  have b1 := (((b1.chg ch6 (fun hm => by have := List.mem_singleton.1 hm; omega)).ext y8).ext D).chg ch9 (fun hm => by have := List.mem_singleton.1 hm; omega)
  obtain ⟨w10, st10, b0', ch10, _⟩ := b0.storeA0 (P := P) (t := T_impl_Money) (xs := [.string cur, .bool a0, .slice ap an ac]) (by kernel_rfl) rfl o9.reps.cells1
  obtain ⟨w11, st11, b1', ch11, _⟩ := (b1.chg ch10 (fun hm => by have := List.mem_singleton.1 hm; omega)).storeA0 (P := P) (t := T_impl_Money) (xs := [.string cur, .bool g0, .slice gp gn gc]) (by kernel_rfl) rfl how2.reps.cells1
  have f0 : ∀ q ∈ f6, q ≠ r0 /\ q ≠ r1 := fun q hq => by have := (lt6 q hq).1; omega
  have f1 : ∀ q ∈ f9, q ≠ r0 /\ q ≠ r1 := fun q hq => by have := (lt9 q hq).1; omega
  have o11 := (o9.chg ch10 (fun q hq hm => (f0 q hq).1 (List.mem_singleton.1 hm))).chg ch11 (fun q hq hm => (f0 q hq).2 (List.mem_singleton.1 hm))
  have p11 := (how2.chg ch10 (fun q hq hm => (f1 q hq).1 (List.mem_singleton.1 hm))).chg ch11 (fun q hq hm => (f1 q hq).2 (List.mem_singleton.1 hm))
  refine ⟨_, _, _, _, rfl, show Chg [rc] w8.drew w9 from ch9, w10, st10, w11, st11, _, _, _, _, _, (b0'.chg ch11 (fun hm => by have := List.mem_singleton.1 hm; omega)).loadA0 (by kernel_rfl), _, _, _, _, _, b1'.loadA0 (by kernel_rfl), cur, u, u2, _, _, rfl, codes20_known cur hcur, hu, o11.reps, p11.reps, ?_⟩
  exact (X9.chg ch10 (fun q hq => by have := List.mem_singleton.1 hq; omega)).chg ch11 (fun q hq => by have := List.mem_singleton.1 hq; omega)
end Go.Proofs.YtbgokfhcgcoipaaGreatDoor
namespace Go.Proofs.YtbgokfhcgcoipaaGreatDoor
open Go Go.Proofs.YtbgokfhcgcoipaaGreatDoor.Sx
def NoInt (xs : List Value) : Prop := ∀ v ∈ xs, ∀ i, v ≠ .int .i64 i
theorem ints_keep {W W' : World} {r : Nat} {e : TypeId} {xs : List Value} {p : Option Addr} {n c : Nat} {z : List Int} (h : IntsR W p n c z) (hb : Blk W r e xs) (hx : NoInt xs) (hc : Chg [r] W W') : IntsR W' p n c z := by
  rcases Nat.eq_zero_or_pos n with h0 | h0
  · exact ⟨h.1, h.2.1, h.2.2.1, fun hn => by omega⟩
  · refine h.chg hc (fun q hq hm => ?_)
    obtain ⟨b, o, hp, hs⟩ := h.2.2.2 h0
    rw [hp] at hq
    simp only [Option.map_some, Option.some.injEq] at hq
    have hqr : q = r := List.mem_singleton.1 hm
    have hz := h.1
    have h1 := hs 0 (.int .i64 (z[0]'(by omega))) (by rw [List.getElem?_map, List.getElem?_eq_getElem (by omega)]; rfl)
    rw [hq, hqr, Nat.add_zero, hb.cell] at h1
    exact hx _ (List.mem_of_getElem? h1) _ rfl
theorem reps_keep {W W' : World} {r : Nat} {e : TypeId} {xs : List Value} (hb : Blk W r e xs) (hx : NoInt xs) (hc : Chg [r] W W') : ∀ {vs : List Value} {ds : List D0}, Reps W vs ds -> Reps W' vs ds
  | [], [], _ => trivial
  | [], _ :: _, h => h.elim
  | _ :: _, [], h => h.elim
  | v :: vs, d :: ds, h => ⟨by
      have h1 := h.1
      cases d <;> simp only [Rep0] at h1 ⊢ <;> try exact h1
      obtain ⟨p, n, c, hv, hi⟩ := h1
      exact ⟨p, n, c, hv, ints_keep hi hb hx hc⟩, reps_keep hb hx hc h.2⟩
theorem noInt_money (s : ByteArray) (b : Bool) (p : Option Addr) (n c : Nat) : NoInt [.string s, .bool b, .slice p n c] := by
  intro v hv i
  simp only [List.mem_cons, List.not_mem_nil, or_false] at hv
  rcases hv with rfl | rfl | rfl <;> simp
end Go.Proofs.YtbgokfhcgcoipaaGreatDoor
namespace Go.Proofs.YtbgokfhcgcoipaaGreatDoor
open Go Go.Proofs.YtbgokfhcgcoipaaGreatDoor.Sx
theorem RV.neg {d : List D0} {N : Int} {D : Nat} (h : RV d N D) : RV (rmk (-(ratNum d)) (ratDen d)) (-N) D := by
  obtain ⟨n, e, k, rfl, h1, h2, h3, rfl, rfl⟩ := h
  rw [ratNum_rmk, ratDen_rmk]
  exact ⟨-n, e, k, rfl, ratOk_neg h1, h2, h3, by rw [Int.neg_mul], rfl⟩
theorem RV.ok {d : List D0} {N : Int} {D : Nat} (h : RV d N D) : ratOk d = true := by
  obtain ⟨n, e, k, rfl, h1, _⟩ := h
  exact h1
theorem sgn_scale {z : Int} {k : Nat} (hk : 0 < k) : sgn (z * k) = sgn z := by
  unfold sgn
  by_cases h1 : z < 0
  · rw [if_pos h1, if_pos (Int.mul_neg_of_neg_of_pos h1 (by omega))]
  · rw [if_neg h1, if_neg (by have := Int.mul_nonneg (show 0 <= z by omega) (show 0 <= (k : Int) by omega); omega)]
    by_cases h2 : z = 0
    · rw [if_pos h2, if_pos (by rw [h2, Int.zero_mul])]
    · rw [if_neg h2, if_neg (by have := Int.mul_pos (show 0 < z by omega) (show 0 < (k : Int) by omega); omega)]
theorem noInt_rat (b : Bool) (p : Option Addr) (n c : Nat) (q : Option Addr) (m d : Nat) : NoInt [.bool b, .slice p n c, .slice q m d] := by
  intro v hv i
  simp only [List.mem_cons, List.not_mem_nil, or_false] at hv
  rcases hv with rfl | rfl | rfl <;> simp
theorem rsign_v {d : List D0} {N : Int} {D : Nat} (r : RV d N D) : rsign d < 0 ↔ N < 0 := by
  obtain ⟨n, e, k, rfl, h1, h2, h3, rfl, rfl⟩ := r
  unfold rsign
  rw [if_pos h1, ratNum_rmk, <- sgn_scale (z := n) h3]
  unfold sgn
  split
  · simp_all
  · split <;> simp_all
theorem impl_RatCmp_v {w : World} {xs ys : List Value} {d1 d2 : List D0} {N1 N2 : Int} {D1 D2 : Nat} (h : Reps w xs d1) (g : Reps w ys d2) (r1 : RV d1 N1 D1) (r2 : RV d2 N2 D2) :
    Ret P n_impl_RatCmp [.agg ⟨xs⟩, .agg ⟨ys⟩] w fun v w' => v = .int .i64 (sgn (N1 * D2 - N2 * D1)) /\ Ext w w' := by
  obtain ⟨n1, e1, k1, rfl, hok, p1, q1, rfl, rfl⟩ := r1
  obtain ⟨n2, e2, k2, rfl, gok, p2, q2, rfl, rfl⟩ := r2
  have hs : sgn (n1 * (k1 : Int) * ((e2 * k2 : Nat) : Int) - n2 * (k2 : Int) * ((e1 * k1 : Nat) : Int)) = sgn (n1 * e2 - n2 * e1) := by
    have e : n1 * (k1 : Int) * ((e2 * k2 : Nat) : Int) - n2 * (k2 : Int) * ((e1 * k1 : Nat) : Int) = (n1 * e2 - n2 * e1) * ((k1 * k2 : Nat) : Int) := by
      rw [Int.natCast_mul, Int.natCast_mul, Int.natCast_mul, cast_mul2, cast_mul2 n2 k2, Int.sub_mul, Int.mul_comm (k2 : Int) (k1 : Int)]
    rw [e, sgn_scale (Nat.mul_pos q1 q2)]
  rw [hs]
  obtain ⟨_, _, _, l1, m1⟩ := ratOk_enc hok
  obtain ⟨_, _, _, l2, m2⟩ := ratOk_enc gok
  rw [ratNum_rmk] at l1 l2
  rw [ratDen_rmk] at m1 m2
  obtain ⟨b1, ap, an, ac, az, bp, bn, bc, bz, rfl, hd, i1, i2⟩ := open_Rat h (rmk_code _ _)
  obtain ⟨b2, cp, cn, cc, cz, dp, dn, dc, dz, rfl, hd2, j1, j2⟩ := open_Rat g (rmk_code _ _)
  have hbz : bz = digs e1 := by simp only [rmk, List.cons.injEq, D0.ints.injEq, and_true] at hd; exact hd.2.2.symm
  have hdz : dz = digs e2 := by simp only [rmk, List.cons.injEq, D0.ints.injEq, and_true] at hd2; exact hd2.2.2.symm
  subst hbz; subst hdz
  have ibn := i2.1; have jdn := j2.1
  refine impl_RatCmp_ret ?_
  unfold impl_RatCmp
  intro r w1 hn1 r' w2 hn2
  have X2 := hn1.ext.trans hn2.ext
  refine ⟨_, _, _, _, _, _, _, (hn1.blk.ext hn2.ext).loadA0 (by kernel_rfl), _, _, _, _, _, _, _, hn2.blk.loadA0 (by kernel_rfl), ?_⟩
  refine Ret.at (impl_ratsOk_c (h.ext X2) (g.ext X2) hok gok) ?_
  rintro v w3 ⟨hv, y3⟩
  subst hv
  have D := Ext.drew w3
  have b0 := ((hn1.blk.ext hn2.ext).ext y3).ext D
  have b1' := (hn2.blk.ext y3).ext D
  have X3 := (X2.trans y3).trans D
  refine ⟨_, rfl, fun e => absurd e (by simp), fun _ => ?_⟩
  refine ⟨_, _, _, _, _, _, _, fun W hW => (b0.ext hW).loadA0 (by kernel_rfl), _, _, _, fun W hW => (b1'.ext hW).loadAt 2 rfl (by kernel_rfl) rfl, ?_⟩
  refine Ret.at (impl_Rat_num_n (h.ext X3) hok (j2.ext X3) (by omega)) ?_
  rintro v w4 ⟨vs4, f4, hv, o4, _, y4⟩
  subst hv
  obtain ⟨g0, gp, gn, gc, gz, rfl, _, _⟩ := open_Signed o4.reps (enc_code _)
  refine ⟨_, _, _, _, rfl, y4, _, _, _, _, _, _, _, fun W hW => (b1'.ext hW).loadA0 (by kernel_rfl), _, _, _, fun W hW => (b0.ext hW).loadAt 2 rfl (by kernel_rfl) rfl, ?_⟩
  refine Ret.at (impl_Rat_num_n (g.ext (X3.trans y4)) gok (i2.ext (X3.trans y4)) (by omega)) ?_
  rintro v w5 ⟨vs5, f5, hv, o5, _, y5⟩
  subst hv
  obtain ⟨t0, tp, tn, tc, tz, rfl, _, _⟩ := open_Signed o5.reps (enc_code _)
  refine ⟨_, _, _, _, rfl, ?_⟩
  have p1l := prod_len (x := n1.natAbs) (y := e2) l1 m2
  have p2l := prod_len (x := n2.natAbs) (y := e1) l2 m1
  refine Ret.at (impl_intCmp_c (o4.reps.ext y5) o5.reps (by rw [Int.natAbs_mul, Int.natAbs_natCast]; omega) (by rw [Int.natAbs_mul, Int.natAbs_natCast]; omega)) ?_
  rintro v w6 ⟨hv, y6⟩
  subst hv
  exact ⟨_, rfl, rfl, ((X3.trans y4).trans y5).trans y6⟩
theorem impl_RatNeg_v {w : World} {xs : List Value} {d : List D0} {N : Int} {D : Nat} (h : Reps w xs d) (r : RV d N D) :
    Ret P n_impl_RatNeg [.agg ⟨xs⟩] w fun v w' => ∃ vs d', v = .tuple #[.agg ⟨vs⟩, .bool true] /\ Reps w' vs d' /\ RV d' (-N) D /\ Ext w w' := by
  have hh := h
  obtain ⟨b1, ap, an, ac, az, bp, bn, bc, bz, rfl, _, _, _⟩ := open_Rat h r.code
  refine impl_RatNeg_ret ?_
  unfold impl_RatNeg
  intro r0 w1 hn1 r1 w2 hn2
  have e2 := hn2.r_eq; have s1 := hn1.size
  have X2 := hn1.ext.trans hn2.ext
  refine ⟨_, _, _, _, _, _, _, (hn1.blk.ext hn2.ext).loadA0 (by kernel_rfl), ?_⟩
  refine Ret.at (impl_RatOk_c (hh.ext X2) r.code) ?_
  rintro v w3 ⟨hv, y3⟩
  subst hv
  rw [r.ok]
  have X3 := X2.trans y3
  refine ⟨_, rfl, fun e => absurd e (by simp), fun _ => ⟨_, _, _, _, _, _, _, ((hn1.blk.ext hn2.ext).ext y3).loadA0 (by kernel_rfl), ?_⟩⟩
  refine Ret.at (impl_ratNeg_c (hh.ext X3) r.code r.ok) ?_
  rintro v w4 ⟨vs4, f4, hv, o4, nd4, y4⟩
  subst hv
  obtain ⟨t0, tp, tn, tc, tz, qp, qn, qc, qz, rfl, _, _, _⟩ := open_Rat o4.reps (rmk_code _ _)
  have l4 := y4.le; have l3 := y3.le; have s2 := hn2.size
  obtain ⟨W', st', ld', ow', xx', _, _⟩ := agg_end (t := T_impl_Rat) ((hn2.blk.ext y3).ext y4) (X3.trans y4) (by omega) o4 (by kernel_rfl) rfl (by omega) (by omega)
  exact ⟨_, _, _, _, _, _, _, rfl, W', st', _, _, _, _, _, _, _, ld', _, _, rfl, ow'.reps, r.neg, xx'⟩
theorem laws_must_c {w : World} {xs : List Value} {d : List D0} (h : Reps w xs d) (hc : d.map D0.code = [.bool, .ints, .ints]) :
    Ret P n_laws_must [.agg ⟨xs⟩, .bool true] w fun v w' => v = .agg ⟨xs⟩ /\ Ext w w' := by
  have hh := h
  obtain ⟨b1, ap, an, ac, az, bp, bn, bc, bz, rfl, _, _, _⟩ := open_Rat h hc
  refine laws_must_ret ?_
  unfold laws_must
  intro r0 w1 hn1 r1 w2 hn2
  have e2 := hn2.r_eq; have s1 := hn1.size
  have X2 := hn1.ext.trans hn2.ext
  obtain ⟨w3, st3, b3, ch3, _⟩ := hn2.blk.storeA0 (P := P) (t := T_impl_Rat) (xs := [.bool b1, .slice ap an ac, .slice bp bn bc]) (by kernel_rfl) rfl hh.cells1
  exact ⟨fun e => absurd e (by simp), fun _ => ⟨_, _, _, _, _, _, _, (hn1.blk.ext hn2.ext).loadA0 (by kernel_rfl), w3, st3, _, _, _, _, _, _, _, b3.loadA0 (by kernel_rfl), rfl, X2.chg ch3 (fun q hq => by have := List.mem_singleton.1 hq; omega)⟩⟩
theorem laws_size_c {w : World} {xs : List Value} {d : List D0} {N : Int} {D : Nat} (h : Reps w xs d) (r : RV d N D) :
    Ret P n_laws_size [.agg ⟨xs⟩] w fun v w' => ∃ vs d', v = .agg ⟨vs⟩ /\ Reps w' vs d' /\ RV d' ((N.natAbs : Nat) : Int) D /\ Ext w w' := by
  have hh := h
  obtain ⟨b1, ap, an, ac, az, bp, bn, bc, bz, rfl, _, _, _⟩ := open_Rat h r.code
  refine laws_size_ret ?_
  unfold laws_size
  intro r0 w1 hn1 r1 w2 hn2
  have e2 := hn2.r_eq; have s1 := hn1.size
  have X2 := hn1.ext.trans hn2.ext
  refine ⟨_, _, _, _, _, _, _, (hn1.blk.ext hn2.ext).loadA0 (by kernel_rfl), ?_⟩
  refine Ret.at (impl_RatSign_c (hh.ext X2) r.code) ?_
  rintro v w3 ⟨hv, y3⟩
  subst hv
  have X3 := X2.trans y3
  have hsg : rsign d < 0 ↔ N < 0 := rsign_v r
  have b2 := hn2.blk.ext y3
  refine ⟨_, rfl, ifD (fun hneg => ?_) (fun hnn => ?_)⟩
  · refine ⟨_, _, _, _, _, _, _, ((hn1.blk.ext hn2.ext).ext y3).loadA0 (by kernel_rfl), ?_⟩
    refine Ret.at (impl_RatNeg_v (hh.ext X3) r) ?_
    rintro v w4 ⟨vs4, d4, hv, r4, v4, y4⟩
    subst hv
    have r4' := r4
    obtain ⟨t0, tp, tn, tc, tz, qp, qn, qc, qz, rfl, _, _, _⟩ := open_Rat r4 v4.code
    refine ⟨_, _, _, _, _, _, _, _, rfl, ?_⟩
    refine Ret.at (laws_must_c r4' v4.code) ?_
    rintro v w5 ⟨hv, y5⟩
    cases hv
    have b5 := (b2.ext y4).ext y5
    obtain ⟨w6, st6, b6, ch6, _⟩ := b5.storeA0 (P := P) (t := T_impl_Rat) (xs := [.bool t0, .slice tp tn tc, .slice qp qn qc]) (by kernel_rfl) rfl r4'.cells1
    refine ⟨_, _, _, _, _, _, _, rfl, w6, st6, _, _, _, _, _, _, _, b6.loadA0 (by kernel_rfl), _, d4, rfl, reps_keep b5 (noInt_rat _ _ _ _ _ _ _) ch6 (r4'.ext y5), ?_, ((X3.trans y4).trans y5).chg ch6 (fun q hq => by have := List.mem_singleton.1 hq; omega)⟩
    have : ((N.natAbs : Nat) : Int) = -N := by have := hsg.1 hneg; omega
    rw [this]; exact v4
  · obtain ⟨w6, st6, b6, ch6, _⟩ := b2.storeA0 (P := P) (t := T_impl_Rat) (xs := [.bool b1, .slice ap an ac, .slice bp bn bc]) (by kernel_rfl) rfl hh.cells1
    refine ⟨_, _, _, _, _, _, _, ((hn1.blk.ext hn2.ext).ext y3).loadA0 (by kernel_rfl), w6, st6, _, _, _, _, _, _, _, b6.loadA0 (by kernel_rfl), _, d, rfl, reps_keep b2 (noInt_rat _ _ _ _ _ _ _) ch6 (hh.ext X3), ?_, X3.chg ch6 (fun q hq => by have := List.mem_singleton.1 hq; omega)⟩
    have : ((N.natAbs : Nat) : Int) = N := by
      have : ¬ N < 0 := fun hh => hnn (hsg.2 hh)
      omega
    rw [this]; exact r
theorem laws_small_c {w : World} {xs : List Value} {d : List D0} {N : Int} {D : Nat} (h : Reps w xs d) (r : RV d N D) (hs : N.natAbs < D) :
    Ret P n_laws_small [.agg ⟨xs⟩] w fun v w' => v = .bool true /\ Ext w w' := by
  have hh := h
  obtain ⟨b1, ap, an, ac, az, bp, bn, bc, bz, rfl, _, _, _⟩ := open_Rat h r.code
  refine laws_small_ret ?_
  unfold laws_small
  intro r0 w1 hn1
  refine ⟨_, _, _, _, _, _, _, hn1.blk.loadA0 (by kernel_rfl), ?_⟩
  refine Ret.at (spec_RatOk_c (hh.ext hn1.ext) r.code) ?_
  rintro v w2 ⟨hv, y2⟩
  subst hv
  rw [r.ok]
  have X2 := hn1.ext.trans y2
  refine ⟨_, rfl, fun _ => ?_, fun e => absurd e (by simp)⟩
  refine ⟨_, _, _, _, _, _, _, (hn1.blk.ext y2).loadA0 (by kernel_rfl), ?_⟩
  refine Ret.at (laws_size_c (hh.ext X2) r) ?_
  rintro v w3 ⟨vs3, d3, hv, r3, v3, y3⟩
  subst hv
  have r3' := r3
  obtain ⟨t0, tp, tn, tc, tz, qp, qn, qc, qz, rfl, _, _, _⟩ := open_Rat r3 v3.code
  refine ⟨_, _, _, _, _, _, _, rfl, ?_⟩
  refine Ret.at (impl_IntOf_c (n := 1) (by decide) (by decide)) ?_
  rintro v w4 ⟨vs4, f4, hv, o4, _, y4⟩
  subst hv
  have r4' := o4.reps
  obtain ⟨g0, gp, gn, gc, gz, rfl, _, _⟩ := open_Signed o4.reps (enc_code _)
  refine ⟨_, _, _, _, rfl, ?_⟩
  refine Ret.at (impl_RatInt_v r4' (by rw [show (1 : Int).natAbs = 1 from rfl]; exact Nat.le_trans one_len1 (by decide))) ?_
  rintro v w5 ⟨vs5, d5, hv, r5, v5, y5⟩
  subst hv
  have r5' := r5
  obtain ⟨m0, mp, mn, mc, mz, kp, kn, kc, kz, rfl, _, _, _⟩ := open_Rat r5 v5.code
  refine ⟨_, _, _, _, _, _, _, _, rfl, ?_⟩
  refine Ret.at (laws_must_c r5' v5.code) ?_
  rintro v w6 ⟨hv, y6⟩
  cases hv
  refine ⟨_, _, _, _, _, _, _, rfl, ?_⟩
  refine Ret.at (impl_RatCmp_v (((r3'.ext y4).ext y5).ext y6) (r5'.ext y6) v3 v5) ?_
  rintro v w7 ⟨hv, y7⟩
  subst hv
  refine ⟨_, rfl, ?_, ((((X2.trans y3).trans y4).trans y5).trans y6).trans y7⟩
  have : sgn (((N.natAbs : Nat) : Int) * ((1 : Nat) : Int) - 1 * (D : Int)) < 0 := by
    have h1 : ((N.natAbs : Nat) : Int) * ((1 : Nat) : Int) - 1 * (D : Int) < 0 := by
      rw [Int.one_mul]
      show ((N.natAbs : Nat) : Int) * 1 - (D : Int) < 0
      omega
    unfold sgn; rw [if_pos h1]; decide
  rw [decide_eq_true this]
end Go.Proofs.YtbgokfhcgcoipaaGreatDoor
namespace Go.Proofs.YtbgokfhcgcoipaaGreatDoor
open Go Go.Proofs.YtbgokfhcgcoipaaGreatDoor.Sx
theorem impl_MoneySame_c {w : World} {xs ys : List Value} {dx dy : List D0} (h : Reps w xs dx) (k : Reps w ys dy) (hc : dx.map D0.code = [.str, .bool, .ints]) (kc : dy.map D0.code = [.str, .bool, .ints]) :
    Ret P n_impl_MoneySame [.agg ⟨xs⟩, .agg ⟨ys⟩] w fun v w' => v = .bool (decide (dx = dy)) /\ Ext w w' := by
  obtain ⟨a0, a1, a2p, a2n, a2c, a2z, rfl, rfl, ha⟩ := open_Money h hc
  obtain ⟨b0, b1, b2p, b2n, b2c, b2z, rfl, rfl, hb⟩ := open_Money k kc
  refine impl_MoneySame_ret ?_
  unfold impl_MoneySame
  intro r w1 hn1 r1 w2 hn2
  have x := hn1.ext.trans hn2.ext
  have k0 := hn1.blk.ext hn2.ext; have k1 := hn2.blk
  refine ⟨_, k0.load (by kernel_rfl) rfl, _, k1.load (by kernel_rfl) rfl, ifD (fun e => ?_) (fun e => ⟨dec_no (fun h => e (by simp at h; exact h.1)), x⟩)⟩
  subst e
  refine ⟨_, _, _, _, k0.loadA (xs := [.bool a1, .slice a2p a2n a2c]) (by kernel_rfl) rfl, _, _, _, _, k1.loadA (xs := [.bool b1, .slice b2p b2n b2c]) (by kernel_rfl) rfl, ?_⟩
  refine Ret.at (impl_intSame_c (dx := [.bool a1, .ints a2z]) (dy := [.bool b1, .ints b2z]) ⟨rfl, ⟨_, _, _, rfl, ha.ext x⟩, trivial⟩ ⟨rfl, ⟨_, _, _, rfl, hb.ext x⟩, trivial⟩ rfl rfl) ?_
  rintro v w3 ⟨hv, y⟩
  subst hv
  exact ⟨_, rfl, by simp, x.trans y⟩
end Go.Proofs.YtbgokfhcgcoipaaGreatDoor
namespace Go.Proofs.YtbgokfhcgcoipaaGreatDoor
open Go Go.Proofs.YtbgokfhcgcoipaaGreatDoor.Sx
theorem moneyMk_ok {c : ByteArray} {z : Int} (h : moneyOk (.str c :: enc z) = true) : moneyMk c z = .str c :: enc z := by unfold moneyMk; rw [if_pos h]
end Go.Proofs.YtbgokfhcgcoipaaGreatDoor
namespace Go.Proofs.YtbgokfhcgcoipaaGreatDoor.Sx
open Go Go.RowKit Go.ChangeShapes Go.WideShapes
def rowedV (P : Program) (ns : List String) : Bool := ns.all fun n => ((P.globalNamed n).bind (P.globals[·]?)).all fun gl => P.readableRec gl.type && decide (gl.type < P.types.size)
section
variable {H : Type} {enc : TypeId × Value -> H} {P : Program}
theorem trodAll_ext (hl : laidOutB P = true) {W W' : World} (hb : Ext W W') (sp' : Nat -> Bool) : ∀ {ts : List TypeId} {vs : List Value} {ds : List (DataW H)} {ps : List MemPlace},
    (∀ t ∈ ts, P.readableRec t = true /\ t < P.types.size) -> (∀ p ∈ ps, p.block < W.heap.size) -> (∀ p ∈ ps, sp' p.block = true) ->
    DataW.TrodAll enc P W 0 (fun _ => true) true ts vs ds ps -> DataW.TrodAll enc P W' 0 sp' true ts vs ds ps
  | [], _, _, _, _, _, _, h => by
    obtain ⟨rfl, rfl, rfl⟩ := trodAll_nil h
    exact rfl
  | t :: ts, _, _, _, hr, hlt, hsp, h => by
    obtain ⟨v, vs1, d, ds1, a, b, rfl, rfl, rfl, h1, h2⟩ := trodAll_cons h
    have hrt := hr t (by simp)
    exact ⟨a, b, WideElems.Trod_stays hl hrt.1 hrt.2 h1 (fun x hx => Below.same hb (hlt x (by simp [hx]))) (fun x hx => hsp x (by simp [hx])),
      trodAll_ext hl hb sp' (fun u hu => hr u (by simp [hu])) (fun x hx => hlt x (by simp [hx])) (fun x hx => hsp x (by simp [hx])) h2, rfl⟩
theorem trodVars_sp (hl : laidOutB P = true) {W W' : World} (hb : Ext W W') (sp' : Nat -> Bool) :
    ∀ {ns : List String} {gs : List (DataW H)} {ps : List MemPlace}, rowedV P ns = true -> (∀ p ∈ ps, sp' p.block = true) -> DataW.TrodVars enc P W (fun _ => true) ns gs ps -> DataW.TrodVars enc P W' sp' ns gs ps
  | [], [], _, _, _, h => h
  | [], _ :: _, _, _, _, h => h.elim
  | _ :: _, [], _, _, _, h => h.elim
  | n :: ns, d :: ds, ps, hv, hsp, h => by
    have hlt := h.lt
    obtain ⟨g, t, cs, fuel, p, q, h1, h2, h3, h4, hs, e⟩ := h
    simp only [rowedV, List.all_cons, Bool.and_eq_true] at hv
    have ht : P.readableRec t = true /\ t < P.types.size := by
      have := hv.1
      rw [h1] at this
      cases hg : P.globals[g]? with
      | none => rw [hg] at h2; cases h2
      | some gl =>
        rw [hg] at h2
        obtain rfl : gl.type = t := Option.some.inj h2
        simpa [hg] using this
    have hp : ∀ x ∈ p, x.block < W.heap.size := fun x hx => hlt x (by rw [e]; simp [hx])
    have h3' : W'.var? P n = some cs := by
      unfold World.var? at h3 ⊢
      rw [h1] at h3 ⊢
      simp only [Option.bind_some] at h3 ⊢
      have hg : g < W.heap.size := by
        cases hh : W.heap[g]? with
        | none => rw [hh] at h3; cases h3
        | some o => exact (Array.getElem?_eq_some_iff.1 hh).1
      rw [hb.block g hg]; exact h3
    exact ⟨g, t, cs, fuel, p, q, h1, h2, h3', DataW.trod_stays (kids_book hl ht.1) (book_sized ht.1) (fun h => by cases h) ⟨ht.2, book_self t⟩ h4 (fun x hx => Below.same hb (hp x hx)) (fun x hx => hsp x (by rw [e]; simp [hx])),
      trodVars_sp hl hb sp' (by simpa [rowedV] using hv.2) (fun x hx => hsp x (by rw [e]; simp [hx])) hs, e⟩
theorem post_of_ext {f : Func} {s : ChangeSpec} {apart fresh handsOn again : Bool} {W W' : World} {args : Array Value} {ds gs : List (DataW H)} {before : List MemPlace} {tb : TypeId}
    (hl : laidOutB P = true) (hpar : ∀ t ∈ f.params.toList, P.readableRec t = true /\ t < P.types.size) (hvr : rowedV P s.vars = true)
    (hrt : f.resultTypes = #[tb]) (htb : P.underlying tb = some .bool)
    (hW : DataW.Whole enc P f.params.toList s.vars apart W args.toList ds gs before) (hx : Ext W W')
    (hfn : s.fn H (ds ++ gs) = { results := [.lit (.bool true)], args := ds, vars := gs }) :
    s.post enc P f apart fresh handsOn again W args (.bool true) W' := by
  have hW0 := hW
  have hlt : ∀ p ∈ before, p.block < W.heap.size := hW.lt
  obtain ⟨pa, pv, hA, hV, rfl, hz, hn⟩ := hW
  have hlta : ∀ p ∈ pa, p.block < W.heap.size := fun p hp => hlt p (by simp [hp])
  have hltv : ∀ p ∈ pv, p.block < W.heap.size := fun p hp => hlt p (by simp [hp])
  have hr : (Value.bool true).resultList f.resultTypes.size = [Value.bool true] := by rw [hrt]; rfl
  refine ⟨ds, gs, pa ++ pv, [], pa, pv, hW0, ?_, ?_, ?_, Below.frame hx _, fun _ => ?_⟩
  · rw [hfn, hr, hrt]
    exact trodAll_mk1 (shut_bool htb _)
  · rw [hfn]
    exact trodAll_ext hl hx _ hpar hlta (fun p hp => by simpa using hlta p hp) hA
  · rw [hfn]
    exact trodVars_sp hl hx _ hvr (fun p hp => by simpa using hltv p hp) hV
  · refine ⟨?_, (.lit (.bool true)) :: ds, gs, pa ++ pv, ⟨[] ++ pa, pv, ?_, ?_, by simp, ?_, ?_⟩, fun p hp _ => hp⟩
    · rw [hr, hrt]
      exact ok_one (f := { f with resultTypes := #[tb] }) rfl rfl (okWide_bool_mk htb _)
    · rw [hr, hrt]
      exact trodAll_append (trodAll_ext hl hx _ hpar hlta (fun _ _ => rfl) hA) (trodAll_mk1 (shut_bool htb _))
    · exact trodVars_sp hl hx _ hvr (fun _ _ => rfl) hV
    · intro b off hp
      have := hlt _ hp
      rw [Below.frozen hx (p := ⟨b, off, none⟩) this]
      exact hz b off hp
    · exact hn
end
end Go.Proofs.YtbgokfhcgcoipaaGreatDoor.Sx
namespace Go.Proofs.YtbgokfhcgcoipaaGreatDoor.Sx
open Go Go.RowKit Go.ChangeShapes Go.WideShapes
section
variable {H : Type} {enc : TypeId × Value -> H} {P : Program} {w : World}
theorem spot_none {a : Addr} {v : Value} (h : w.cell? a = some v) : a = ⟨a.block, a.off, none⟩ := by
  obtain ⟨b, o, spot⟩ := a
  have : spot = none := by simpa using World.cell?_spot h
  subst this; rfl
end
end Go.Proofs.YtbgokfhcgcoipaaGreatDoor.Sx
namespace Go.Proofs.YtbgokfhcgcoipaaGreatDoor
open Go Go.RowKit Go.ChangeShapes Go.Proofs.YtbgokfhcgcoipaaGreatDoor.Sx
theorem bytes_of_trod {H : Type} {enc : TypeId × Value -> H} {P : Program} {w : World} {t e : TypeId} {fuel : Nat} {sp : Nat -> Bool} {hd : Bool} {cs : List Value} {x : DataW H × List MemPlace} (ht : P.underlying t = some (.slice e)) (he : P.underlying e = some (.int .u8)) (hc : P.cellsOf e = 1)
    (h : DataW.trod enc P w 0 sp hd fuel t cs = some x) : ∃ p n c, cs = [.slice p n c] /\ ByR w p n := by
  rcases Go.ChangeShapes.open_ints ht he hc h with ⟨rfl, _⟩ | ⟨a, len, cap, zs, rfl, _, hl, hm, hz, _, hcell, _⟩
  · exact ⟨none, 0, 0, rfl, fun h => absurd h (by omega)⟩
  · have hlz : len <= zs.length := by rw [hz]; split <;> omega
    refine ⟨some a, len, cap, rfl, fun hpos => ?_⟩
    have h0 := hcell 0 (by omega)
    have hs := spot_none h0
    have ha : a = ⟨a.block, a.off, none⟩ := by
      obtain ⟨b, o, s⟩ := a
      simp [Addr.add] at hs
      simp [hs]
    have hlt := World.block_lt_of_cell? w _ h0
    refine ⟨a.block, a.off, zs.take len, by rw [<- ha], by simp; omega, fun j v hj => ?_, by simpa [Addr.add] using hlt⟩
    simp only [List.getElem?_map, List.getElem?_take] at hj
    split at hj
    · rename_i hjl
      have hjz : j < zs.length := by omega
      have := hcell j hjz
      rw [ha, addr_add] at this
      rw [this]
      rw [List.getElem?_eq_getElem hjz] at hj
      simp at hj
      rw [<- hj]
      simp [hjz]
    · simp at hj
end Go.Proofs.YtbgokfhcgcoipaaGreatDoor
namespace Go.Proofs.YtbgokfhcgcoipaaGreatDoor
variable {w : World} {R : Value -> World -> Prop}
open Go Go.Proofs.YtbgokfhcgcoipaaGreatDoor.Sx
set_option maxRecDepth 100000
def laws_FnTaxIn_s_j7 (a0 a1 : Nat) (a2 : Bool) (wd_6 a3 : World) (R : Value -> World -> Prop) : Prop :=
 (a2 = true ->
 ∃ a4 a5 a6 a7 a8, (∀ wv_96, Ext wd_6 wv_96 -> Loads P 36 ⟨a1, 0, none⟩ (.agg #[.bool a4, .slice a5 a6 a7, .int .i64 a8]) wv_96) /\ ∃ a9 aa ab ac ae, (∀ wv_97, Ext wd_6 wv_97 -> Loads P 36 ⟨a0, 0, none⟩ (.agg #[.bool a9, .slice aa ab ac, .int .i64 ae]) wv_97) /\ Calls P 41 ⟨[.agg #[.bool a4, .slice a5 a6 a7, .int .i64 a8], .agg #[.bool a9, .slice aa ab ac, .int .i64 ae]]⟩ a3 fun af ag =>
 ∃ ah, af = .returned (.int .i64 ah) /\
 R (.bool (decide ((ah : Int) = 0))) ag) /\
 (a2 = false ->
 R (.bool false) a3)
def laws_FnTaxIn_s_j6 (a0 : Nat) (a1 : Bool) (a2 : Nat) (a3 : Bool) (wd_5 a4 : World) (R : Value -> World -> Prop) : Prop :=
 (a3 = true ->
 laws_FnTaxIn_s_j7 a0 a2 a1 wd_5 a4 R) /\
 (a3 = false ->
 laws_FnTaxIn_s_j7 a0 a2 false wd_5 a4 R)
def laws_FnTaxIn_s_j5 (r a0 a1 : Nat) (a2 : Bool) (a3 : Nat) (a4 : Bool) (wd_4 a5 : World) (R : Value -> World -> Prop) : Prop :=
 (a4 = true ->
 ∃ a6 a7 a8 a9 aa ab ac, (∀ wv_88, Ext wd_4 wv_88 -> Loads P 60 ⟨a1, 0, none⟩ (.agg #[.bool a6, .slice a7 a8 a9, .slice aa ab ac]) wv_88) /\ ∃ ae af ag ah ai, (∀ wv_89, Ext wd_4 wv_89 -> Loads P 33 ⟨r, 0, none⟩ (.agg #[.string ae, .bool af, .slice ag ah ai]) wv_89) /\ Calls P 35 ⟨[.agg #[.string ae, .bool af, .slice ag ah ai]]⟩ a5 fun aj ak =>
 ∃ al am an ao ap aq ar, aj = .returned (.agg #[.bool al, .slice am an ao, .slice ap aq ar]) /\
 Ext a5 ak /\ ∃ au av aw ax ay, (∀ wv_91, Ext wd_4 wv_91 -> Loads P 36 ⟨a0, 0, none⟩ (.agg #[.bool au, .slice av aw ax, .int .i64 ay]) wv_91) /\ Calls P 33 ⟨[.agg #[.bool au, .slice av aw ax, .int .i64 ay]]⟩ ak fun az b0 =>
 ∃ b1 b2 b3 b4 b5 b6 b7, az = .returned (.agg #[.bool b1, .slice b2 b3 b4, .slice b5 b6 b7]) /\
 Ext ak b0 /\ Calls P 34 ⟨[.agg #[.bool al, .slice am an ao, .slice ap aq ar], .agg #[.bool b1, .slice b2 b3 b4, .slice b5 b6 b7]]⟩ b0 fun b8 b9 =>
 ∃ ba bb bc bd be bf bg bh, b8 = .returned (.tuple #[.agg #[.bool ba, .slice bb bc bd, .slice be bf bg], .bool bh]) /\
 Ext b0 b9 /\ Calls P 29 ⟨[.agg #[.bool ba, .slice bb bc bd, .slice be bf bg], .bool bh]⟩ b9 fun bi bj =>
 ∃ bk bl bm bn bo bp bq, bi = .returned (.agg #[.bool bk, .slice bl bm bn, .slice bo bp bq]) /\
 Ext b9 bj /\ Calls P 39 ⟨[.agg #[.bool a6, .slice a7 a8 a9, .slice aa ab ac], .agg #[.bool bk, .slice bl bm bn, .slice bo bp bq]]⟩ bj fun br bs =>
 ∃ bt, br = .returned (.int .i64 bt) /\
 laws_FnTaxIn_s_j6 a0 a2 a3 ((decide ((bt : Int) = 0))) bs bs R) /\
 (a4 = false ->
 laws_FnTaxIn_s_j6 a0 a2 a3 false wd_4 a5 R)
def laws_FnTaxIn_s_j4 (r a0 : Nat) (a1 a2 : Nat) (a3 : Bool) (a4 : Nat) (a5 : Bool) (wd_3 a6 : World) (R : Value -> World -> Prop) : Prop :=
 (a5 = true ->
 ∃ a7 a8 a9 aa ab ac ae, (∀ wv_86, Ext wd_3 wv_86 -> Loads P 60 ⟨a1, 0, none⟩ (.agg #[.bool a7, .slice a8 a9 aa, .slice ab ac ae]) wv_86) /\ Calls P 40 ⟨[.agg #[.bool a7, .slice a8 a9 aa, .slice ab ac ae]]⟩ a6 fun af ag =>
 ∃ ah, af = .returned (.bool ah) /\
 laws_FnTaxIn_s_j5 r a0 a2 a3 a4 ah ag ag R) /\
 (a5 = false ->
 laws_FnTaxIn_s_j5 r a0 a2 a3 a4 false wd_3 a6 R)
def laws_FnTaxIn_s_j3 (r a0 : Nat) (a1 : Bool) (a2 a3 : Nat) (a4 : Bool) (a5 : Nat) (a6 : Bool) (wd_2 a7 : World) (R : Value -> World -> Prop) : Prop :=
 (a6 = true ->
 laws_FnTaxIn_s_j4 r a0 a2 a3 a4 a5 a1 wd_2 a7 R) /\
 (a6 = false ->
 laws_FnTaxIn_s_j4 r a0 a2 a3 a4 a5 false wd_2 a7 R)
def laws_FnTaxIn_s_j2 (r a0 a1 : Nat) (a2 : Bool) (a3 a4 : Nat) (a5 : Bool) (a6 : Nat) (a7 : Bool) (wd_1 a8 : World) (R : Value -> World -> Prop) : Prop :=
 (a7 = true ->
 ∃ a9 aa ab ac ae af ag, (∀ wv_84, Ext wd_1 wv_84 -> Loads P 60 ⟨a1, 0, none⟩ (.agg #[.bool a9, .slice aa ab ac, .slice ae af ag]) wv_84) /\ Calls P 40 ⟨[.agg #[.bool a9, .slice aa ab ac, .slice ae af ag]]⟩ a8 fun ah ai =>
 ∃ aj, ah = .returned (.bool aj) /\
 laws_FnTaxIn_s_j3 r a0 a2 a3 a4 a5 a6 aj ai ai R) /\
 (a7 = false ->
 laws_FnTaxIn_s_j3 r a0 a2 a3 a4 a5 a6 false wd_1 a8 R)
def laws_FnTaxIn_s_j1 (r a0 : Nat) (a1 a2 : Nat) (a3 : Bool) (a4 a5 : Nat) (a6 : Bool) (a7 : Nat) (a8 : Bool) (wd a9 : World) (R : Value -> World -> Prop) : Prop :=
 (a8 = true ->
 ∃ aa ab ac ae af ag ah, (∀ wv_80, Ext wd wv_80 -> Loads P 60 ⟨a2, 0, none⟩ (.agg #[.bool aa, .slice ab ac ae, .slice af ag ah]) wv_80) /\ ∃ ai aj ak al am, (∀ wv_81, Ext wd wv_81 -> Loads P 33 ⟨r, 0, none⟩ (.agg #[.string ai, .bool aj, .slice ak al am]) wv_81) /\ Calls P 35 ⟨[.agg #[.string ai, .bool aj, .slice ak al am]]⟩ a9 fun an ao =>
 ∃ ap aq ar au av aw ax, an = .returned (.agg #[.bool ap, .slice aq ar au, .slice av aw ax]) /\
 Ext a9 ao /\ Calls P 39 ⟨[.agg #[.bool aa, .slice ab ac ae, .slice af ag ah], .agg #[.bool ap, .slice aq ar au, .slice av aw ax]]⟩ ao fun ay az =>
 ∃ b0, ay = .returned (.int .i64 b0) /\
 laws_FnTaxIn_s_j2 r a0 a1 a3 a4 a5 a6 a7 ((decide ((b0 : Int) = 0))) az az R) /\
 (a8 = false ->
 laws_FnTaxIn_s_j2 r a0 a1 a3 a4 a5 a6 a7 false wd a9 R)
def laws_FnTaxIn_s_j0 (r a0 : Nat) (a1 a2 a3 : Nat) (a4 : Bool) (a5 a6 : Nat) (a7 : Bool) (a8 : Nat) (a9 : World) (aa : Bool) (W : World) (R : Value -> World -> Prop) : Prop :=
 (aa = true ->
 ∃ ab ac ae af ag, (∀ wv_77, Ext a9.drew wv_77 -> Loads P 33 ⟨a2, 0, none⟩ (.agg #[.string ab, .bool ac, .slice ae af ag]) wv_77) /\ ∃ ah ai aj ak al, (∀ wv_78, Ext a9.drew wv_78 -> Loads P 33 ⟨r, 0, none⟩ (.agg #[.string ah, .bool ai, .slice aj ak al]) wv_78) /\ Calls P 24 ⟨[.agg #[.string ab, .bool ac, .slice ae af ag], .agg #[.string ah, .bool ai, .slice aj ak al]]⟩ W fun am an =>
 ∃ ao, am = .returned (.bool ao) /\
 laws_FnTaxIn_s_j1 r a0 a1 a3 a4 a5 a6 a7 a8 ao an an R) /\
 (aa = false ->
 laws_FnTaxIn_s_j1 r a0 a1 a3 a4 a5 a6 a7 a8 false a9.drew W R)
def laws_FnTaxIn_s (a0 : Option Addr) (a1 a2 : Nat) (w : World) (R : Value -> World -> Prop) : Prop :=
 ((decide ((1048576 : Int) < ((a1 : Nat) : Int))) = true ->
 R (.bool true) w) /\
 ((decide ((1048576 : Int) < ((a1 : Nat) : Int))) = false ->
 Calls P 27 ⟨[.slice a0 a1 a2]⟩ w fun e wv =>
 ∃ a3 a4 a5 a6 a7 a8 a9 aa ab ac, e = .returned (.tuple #[.agg #[.string a3, .bool a4, .slice a5 a6 a7], .agg #[.string a8, .bool a9, .slice aa ab ac]]) /\
 ∀ r ae, New wv (.cells ⟨[.string ByteArray.empty, .bool false, .slice none 0 0]⟩ 33 (0, 0)) r ae ->
 ∀ af ag, New ae (.cells ⟨[.string ByteArray.empty, .bool false, .slice none 0 0]⟩ 33 (0, 0)) af ag ->
 ∃ wv_3, Stores P 33 ⟨r, 0, none⟩ (.agg #[.string a3, .bool a4, .slice a5 a6 a7]) ag wv_3 /\
 ∃ wv_4, Stores P 33 ⟨af, 0, none⟩ (.agg #[.string a8, .bool a9, .slice aa ab ac]) wv_3 wv_4 /\
 Calls P 15 ⟨[.slice a0 a1 a2]⟩ wv_4 fun ah ai =>
 ∃ aj ak al am an, ah = .returned (.agg #[.bool aj, .slice ak al am, .int .i64 an]) /\
 ∀ ao ap, New ai (.cells ⟨[.bool false, .slice none 0 0, .int .i64 0]⟩ 36 (0, 0)) ao ap ->
 ∃ wv_7, Stores P 36 ⟨ao, 0, none⟩ (.agg #[.bool aj, .slice ak al am, .int .i64 an]) ap wv_7 /\
 ∃ aq ar au av aw, (∀ wv_8, Ext wv_7.drew wv_8 -> Loads P 33 ⟨r, 0, none⟩ (.agg #[.string aq, .bool ar, .slice au av aw]) wv_8) /\ ∃ ax ay az b0 b1, (∀ wv_9, Ext wv_7.drew wv_9 -> Loads P 36 ⟨ao, 0, none⟩ (.agg #[.bool ax, .slice ay az b0, .int .i64 b1]) wv_9) /\ ∀ (ss : List (Option Nat)) (b2 : World), Fl [.cells ⟨[.string ByteArray.empty, .bool false, .slice none 0 0]⟩ 33 (0, 0), .cells ⟨[.string ByteArray.empty, .bool false, .slice none 0 0]⟩ 33 (0, 0), .cells ⟨[.bool false, .slice none 0 0, .slice none 0 0]⟩ 60 (0, 0)] [none, none, none] wv_7.drew ss b2 ->
 Calls P 18 ⟨[.slice a0 a1 a2]⟩ b2 fun b3 b4 =>
 ∃ b5, b3 = .returned (.int .i64 b5) /\
 Ext b2 b4 /\ ∀ (ss_1 : List (Option Nat)) (b6 : World), Fl [.cells ⟨[.string ByteArray.empty, .bool false, .slice none 0 0]⟩ 33 (0, 0), .cells ⟨[.string ByteArray.empty, .bool false, .slice none 0 0]⟩ 33 (0, 0), .cells ⟨[.bool false, .slice none 0 0, .slice none 0 0]⟩ 60 (0, 0)] ss b4 ss_1 b6 ->
 Calls P 28 ⟨[.agg #[.string aq, .bool ar, .slice au av aw], .agg #[.bool ax, .slice ay az b0, .int .i64 b1], .int .i64 b5]⟩ b6 fun b7 b8 =>
 ∃ b9 ba bb bc bd be bf bg bh bi bj bk bl bm bn bo bp bq, b7 = .returned (.tuple #[.agg #[.string b9, .bool ba, .slice bb bc bd], .agg #[.string be, .bool bf, .slice bg bh bi], .agg #[.bool bj, .slice bk bl bm, .slice bn bo bp], .bool bq]) /\
 ∀ (ss_2 : List (Option Nat)) (br : World) (bs : Nat), Fl [.cells ⟨[.string ByteArray.empty, .bool false, .slice none 0 0]⟩ 33 (0, 0), .cells ⟨[.string ByteArray.empty, .bool false, .slice none 0 0]⟩ 33 (0, 0), .cells ⟨[.bool false, .slice none 0 0, .slice none 0 0]⟩ 60 (0, 0)] ss_1 b8 ss_2 br -> ss_2[0]? = some (some bs) ->
 ∀ (ss_3 : List (Option Nat)) (bt : World) (bu : Nat), Fl [.cells ⟨[.string ByteArray.empty, .bool false, .slice none 0 0]⟩ 33 (0, 0), .cells ⟨[.string ByteArray.empty, .bool false, .slice none 0 0]⟩ 33 (0, 0), .cells ⟨[.bool false, .slice none 0 0, .slice none 0 0]⟩ 60 (0, 0)] ss_2 br ss_3 bt -> ss_3[1]? = some (some bu) ->
 ∀ (ss_4 : List (Option Nat)) (bv : World) (bw : Nat), Fl [.cells ⟨[.string ByteArray.empty, .bool false, .slice none 0 0]⟩ 33 (0, 0), .cells ⟨[.string ByteArray.empty, .bool false, .slice none 0 0]⟩ 33 (0, 0), .cells ⟨[.bool false, .slice none 0 0, .slice none 0 0]⟩ 60 (0, 0)] ss_3 bt ss_4 bv -> ss_4[2]? = some (some bw) ->
 ∃ wv_17, Stores P 33 ⟨bs, 0, none⟩ (.agg #[.string b9, .bool ba, .slice bb bc bd]) bv wv_17 /\
 ∃ wv_18, Stores P 33 ⟨bu, 0, none⟩ (.agg #[.string be, .bool bf, .slice bg bh bi]) wv_17 wv_18 /\
 ∃ wv_19, Stores P 60 ⟨bw, 0, none⟩ (.agg #[.bool bj, .slice bk bl bm, .slice bn bo bp]) wv_18 wv_19 /\
 ∃ bx bz c0 c1 c2, Loads P 33 ⟨bs, 0, none⟩ (.agg #[.string bx, .bool bz, .slice c0 c1 c2]) wv_19 /\ ∃ c3 c4 c5 c6 c7, Loads P 33 ⟨bu, 0, none⟩ (.agg #[.string c3, .bool c4, .slice c5 c6 c7]) wv_19 /\ Calls P 23 ⟨[.agg #[.string bx, .bool bz, .slice c0 c1 c2], .agg #[.string c3, .bool c4, .slice c5 c6 c7]]⟩ wv_19 fun c8 c9 =>
 ∃ ca cb cc cd ce cf, c8 = .returned (.tuple #[.agg #[.string ca, .bool cb, .slice cc cd ce], .bool cf]) /\
 ∀ cg ch, New c9 (.cells ⟨[.string ByteArray.empty, .bool false, .slice none 0 0]⟩ 33 (0, 0)) cg ch ->
 ∃ wv_22, Stores P 33 ⟨cg, 0, none⟩ (.agg #[.string ca, .bool cb, .slice cc cd ce]) ch wv_22 /\
 ∀ (ss_5 : List (Option Nat)) (ci : World), Fl [.cells ⟨[.bool false, .slice none 0 0, .slice none 0 0]⟩ 60 (0, 0)] [none] wv_22.drew ss_5 ci ->
 Calls P 32 ⟨[.int .i64 1]⟩ ci fun cj ck =>
 ∃ cl cm cn co, cj = .returned (.agg #[.bool cl, .slice cm cn co]) /\
 Ext ci ck /\ ∀ (ss_6 : List (Option Nat)) (cp : World), Fl [.cells ⟨[.bool false, .slice none 0 0, .slice none 0 0]⟩ 60 (0, 0)] ss_5 ck ss_6 cp ->
 Calls P 31 ⟨[.agg #[.bool cl, .slice cm cn co]]⟩ cp fun cq cr =>
 ∃ cs ct cu cv cw cx cy cz, cq = .returned (.tuple #[.agg #[.bool cs, .slice ct cu cv, .slice cw cx cy], .bool cz]) /\
 Ext cp cr /\ ∀ (ss_7 : List (Option Nat)) (d0 : World), Fl [.cells ⟨[.bool false, .slice none 0 0, .slice none 0 0]⟩ 60 (0, 0)] ss_6 cr ss_7 d0 ->
 Calls P 29 ⟨[.agg #[.bool cs, .slice ct cu cv, .slice cw cx cy], .bool cz]⟩ d0 fun d1 d2 =>
 ∃ d3 d4 d5 d6 d7 d8 d9, d1 = .returned (.agg #[.bool d3, .slice d4 d5 d6, .slice d7 d8 d9]) /\
 Ext d0 d2 /\ ∃ da db dc dd de, (∀ wv_29, Ext wv_22.drew wv_29 -> Loads P 36 ⟨ao, 0, none⟩ (.agg #[.bool da, .slice db dc dd, .int .i64 de]) wv_29) /\ ∀ (ss_8 : List (Option Nat)) (df : World), Fl [.cells ⟨[.bool false, .slice none 0 0, .slice none 0 0]⟩ 60 (0, 0)] ss_7 d2 ss_8 df ->
 Calls P 33 ⟨[.agg #[.bool da, .slice db dc dd, .int .i64 de]]⟩ df fun dg dh =>
 ∃ di dj dk dl dm dn dp, dg = .returned (.agg #[.bool di, .slice dj dk dl, .slice dm dn dp]) /\
 ∀ (ss_9 : List (Option Nat)) (dq : World), Fl [.cells ⟨[.bool false, .slice none 0 0, .slice none 0 0]⟩ 60 (0, 0)] ss_8 dh ss_9 dq ->
 Calls P 30 ⟨[.agg #[.bool d3, .slice d4 d5 d6, .slice d7 d8 d9], .agg #[.bool di, .slice dj dk dl, .slice dm dn dp]]⟩ dq fun dr ds =>
 ∃ dt du dv dw dx dy dz e0, dr = .returned (.tuple #[.agg #[.bool dt, .slice du dv dw, .slice dx dy dz], .bool e0]) /\
 ∀ (ss_10 : List (Option Nat)) (e1 : World), Fl [.cells ⟨[.bool false, .slice none 0 0, .slice none 0 0]⟩ 60 (0, 0)] ss_9 ds ss_10 e1 ->
 Calls P 29 ⟨[.agg #[.bool dt, .slice du dv dw, .slice dx dy dz], .bool e0]⟩ e1 fun e2 e3 =>
 ∃ e4 e5 e6 e7 e8 e9 ea, e2 = .returned (.agg #[.bool e4, .slice e5 e6 e7, .slice e8 e9 ea]) /\
 ∀ (ss_11 : List (Option Nat)) (eb : World) (ec : Nat), Fl [.cells ⟨[.bool false, .slice none 0 0, .slice none 0 0]⟩ 60 (0, 0)] ss_10 e3 ss_11 eb -> ss_11[0]? = some (some ec) ->
 ∃ wv_37, Stores P 60 ⟨ec, 0, none⟩ (.agg #[.bool e4, .slice e5 e6 e7, .slice e8 e9 ea]) eb wv_37 /\
 ∃ ed ee ef eg eh, (∀ wv_38, Ext wv_37.drew wv_38 -> Loads P 33 ⟨bs, 0, none⟩ (.agg #[.string ed, .bool ee, .slice ef eg eh]) wv_38) /\ ∀ (ss_12 : List (Option Nat)) (ei : World), Fl [.cells ⟨[.bool false, .slice none 0 0, .slice none 0 0]⟩ 60 (0, 0)] [none] wv_37.drew ss_12 ei ->
 Calls P 35 ⟨[.agg #[.string ed, .bool ee, .slice ef eg eh]]⟩ ei fun ej ek =>
 ∃ el em en eo ep eq er, ej = .returned (.agg #[.bool el, .slice em en eo, .slice ep eq er]) /\
 Ext ei ek /\ ∃ es et eu ev ew ex ey, (∀ wv_41, Ext wv_37.drew wv_41 -> Loads P 60 ⟨bw, 0, none⟩ (.agg #[.bool es, .slice et eu ev, .slice ew ex ey]) wv_41) /\ ∀ (ss_13 : List (Option Nat)) (ez : World), Fl [.cells ⟨[.bool false, .slice none 0 0, .slice none 0 0]⟩ 60 (0, 0)] ss_12 ek ss_13 ez ->
 Calls P 30 ⟨[.agg #[.bool el, .slice em en eo, .slice ep eq er], .agg #[.bool es, .slice et eu ev, .slice ew ex ey]]⟩ ez fun f0 f1 =>
 ∃ f2 f3 f4 f5 f6 f7 f8 f9, f0 = .returned (.tuple #[.agg #[.bool f2, .slice f3 f4 f5, .slice f6 f7 f8], .bool f9]) /\
 Ext ez f1 /\ ∀ (ss_14 : List (Option Nat)) (fa : World), Fl [.cells ⟨[.bool false, .slice none 0 0, .slice none 0 0]⟩ 60 (0, 0)] ss_13 f1 ss_14 fa ->
 Calls P 29 ⟨[.agg #[.bool f2, .slice f3 f4 f5, .slice f6 f7 f8], .bool f9]⟩ fa fun fb fc =>
 ∃ fd fe ff fg fh fi fj, fb = .returned (.agg #[.bool fd, .slice fe ff fg, .slice fh fi fj]) /\
 Ext fa fc /\ ∃ fk fl fm fn fo fp fq, (∀ wv_46, Ext wv_37.drew wv_46 -> Loads P 60 ⟨ec, 0, none⟩ (.agg #[.bool fk, .slice fl fm fn, .slice fo fp fq]) wv_46) /\ ∀ (ss_15 : List (Option Nat)) (fr : World), Fl [.cells ⟨[.bool false, .slice none 0 0, .slice none 0 0]⟩ 60 (0, 0)] ss_14 fc ss_15 fr ->
 Calls P 34 ⟨[.agg #[.bool fd, .slice fe ff fg, .slice fh fi fj], .agg #[.bool fk, .slice fl fm fn, .slice fo fp fq]]⟩ fr fun fs ft =>
 ∃ fu fv fw fx fy fz g0 g1, fs = .returned (.tuple #[.agg #[.bool fu, .slice fv fw fx, .slice fy fz g0], .bool g1]) /\
 ∀ (ss_16 : List (Option Nat)) (g2 : World), Fl [.cells ⟨[.bool false, .slice none 0 0, .slice none 0 0]⟩ 60 (0, 0)] ss_15 ft ss_16 g2 ->
 Calls P 29 ⟨[.agg #[.bool fu, .slice fv fw fx, .slice fy fz g0], .bool g1]⟩ g2 fun g3 g4 =>
 ∃ g5 g6 g7 g8 g9 ga gb, g3 = .returned (.agg #[.bool g5, .slice g6 g7 g8, .slice g9 ga gb]) /\
 ∀ (ss_17 : List (Option Nat)) (gc : World) (gd : Nat), Fl [.cells ⟨[.bool false, .slice none 0 0, .slice none 0 0]⟩ 60 (0, 0)] ss_16 g4 ss_17 gc -> ss_17[0]? = some (some gd) ->
 ∃ wv_52, Stores P 60 ⟨gd, 0, none⟩ (.agg #[.bool g5, .slice g6 g7 g8, .slice g9 ga gb]) gc wv_52 /\
 ∃ ge gf gg gh gi, (∀ wv_53, Ext wv_52.drew wv_53 -> Loads P 33 ⟨r, 0, none⟩ (.agg #[.string ge, .bool gf, .slice gg gh gi]) wv_53) /\ ∃ gj gk gl gm gn, (∀ wv_54, Ext wv_52.drew wv_54 -> Loads P 36 ⟨ao, 0, none⟩ (.agg #[.bool gj, .slice gk gl gm, .int .i64 gn]) wv_54) /\ ∀ (ss_18 : List (Option Nat)) (go : World), Fl [.cells ⟨[.string ByteArray.empty, .bool false, .slice none 0 0]⟩ 33 (0, 0), .cells ⟨[.bool false, .slice none 0 0, .slice none 0 0]⟩ 60 (0, 0)] [none, none] wv_52.drew ss_18 go ->
 Calls P 18 ⟨[.slice a0 a1 a2]⟩ go fun gp gq =>
 ∃ gr, gp = .returned (.int .i64 gr) /\
 Ext go gq /\ ∀ (ss_19 : List (Option Nat)) (gs : World), Fl [.cells ⟨[.string ByteArray.empty, .bool false, .slice none 0 0]⟩ 33 (0, 0), .cells ⟨[.bool false, .slice none 0 0, .slice none 0 0]⟩ 60 (0, 0)] ss_18 gq ss_19 gs ->
 Calls P 36 ⟨[.agg #[.string ge, .bool gf, .slice gg gh gi], .agg #[.bool gj, .slice gk gl gm, .int .i64 gn], .int .i64 gr]⟩ gs fun gt gu =>
 ∃ gv gw gx gy gz h0 h1 h2 h3 h4 h5 h6 h7, gt = .returned (.tuple #[.agg #[.string gv, .bool gw, .slice gx gy gz], .agg #[.bool h0, .slice h1 h2 h3, .slice h4 h5 h6], .bool h7]) /\
 ∀ (ss_20 : List (Option Nat)) (h8 : World) (h9 : Nat), Fl [.cells ⟨[.string ByteArray.empty, .bool false, .slice none 0 0]⟩ 33 (0, 0), .cells ⟨[.bool false, .slice none 0 0, .slice none 0 0]⟩ 60 (0, 0)] ss_19 gu ss_20 h8 -> ss_20[0]? = some (some h9) ->
 ∀ (ss_21 : List (Option Nat)) (ha : World) (hb : Nat), Fl [.cells ⟨[.string ByteArray.empty, .bool false, .slice none 0 0]⟩ 33 (0, 0), .cells ⟨[.bool false, .slice none 0 0, .slice none 0 0]⟩ 60 (0, 0)] ss_20 h8 ss_21 ha -> ss_21[1]? = some (some hb) ->
 ∃ wv_61, Stores P 33 ⟨h9, 0, none⟩ (.agg #[.string gv, .bool gw, .slice gx gy gz]) ha wv_61 /\
 ∃ wv_62, Stores P 60 ⟨hb, 0, none⟩ (.agg #[.bool h0, .slice h1 h2 h3, .slice h4 h5 h6]) wv_61 wv_62 /\
 ∃ hc hd he hf hg, (∀ wv_63, Ext wv_62.drew wv_63 -> Loads P 33 ⟨h9, 0, none⟩ (.agg #[.string hc, .bool hd, .slice he hf hg]) wv_63) /\ ∀ (ss_22 : List (Option Nat)) (hh : World), Fl [.cells ⟨[.bool false, .slice none 0 0, .slice none 0 0]⟩ 60 (0, 0)] [none] wv_62.drew ss_22 hh ->
 Calls P 35 ⟨[.agg #[.string hc, .bool hd, .slice he hf hg]]⟩ hh fun hi hj =>
 ∃ hk hl hm hn ho hp hq, hi = .returned (.agg #[.bool hk, .slice hl hm hn, .slice ho hp hq]) /\
 Ext hh hj /\ ∃ hr hs ht hu hv hw hx, (∀ wv_66, Ext wv_62.drew wv_66 -> Loads P 60 ⟨hb, 0, none⟩ (.agg #[.bool hr, .slice hs ht hu, .slice hv hw hx]) wv_66) /\ ∀ (ss_23 : List (Option Nat)) (hy : World), Fl [.cells ⟨[.bool false, .slice none 0 0, .slice none 0 0]⟩ 60 (0, 0)] ss_22 hj ss_23 hy ->
 Calls P 30 ⟨[.agg #[.bool hk, .slice hl hm hn, .slice ho hp hq], .agg #[.bool hr, .slice hs ht hu, .slice hv hw hx]]⟩ hy fun hz i0 =>
 ∃ i1 i2 i3 i4 i5 i6 i7 i8, hz = .returned (.tuple #[.agg #[.bool i1, .slice i2 i3 i4, .slice i5 i6 i7], .bool i8]) /\
 ∀ (ss_24 : List (Option Nat)) (i9 : World), Fl [.cells ⟨[.bool false, .slice none 0 0, .slice none 0 0]⟩ 60 (0, 0)] ss_23 i0 ss_24 i9 ->
 Calls P 29 ⟨[.agg #[.bool i1, .slice i2 i3 i4, .slice i5 i6 i7], .bool i8]⟩ i9 fun ia ib =>
 ∃ ic id ie ig ih ii ij, ia = .returned (.agg #[.bool ic, .slice id ie ig, .slice ih ii ij]) /\
 ∀ (ss_25 : List (Option Nat)) (ik : World) (il : Nat), Fl [.cells ⟨[.bool false, .slice none 0 0, .slice none 0 0]⟩ 60 (0, 0)] ss_24 ib ss_25 ik -> ss_25[0]? = some (some il) ->
 ∃ wv_72, Stores P 60 ⟨il, 0, none⟩ (.agg #[.bool ic, .slice id ie ig, .slice ih ii ij]) ik wv_72 /\
 ∃ im io ip iq ir, Loads P 36 ⟨ao, 0, none⟩ (.agg #[.bool im, .slice io ip iq, .int .i64 ir]) wv_72 /\ Calls P 38 ⟨[.agg #[.bool im, .slice io ip iq, .int .i64 ir]]⟩ wv_72 fun it iu =>
 ∃ iv, it = .returned (.string iv) /\
 Calls P 37 ⟨[.string iv]⟩ iu fun iw ix =>
 ∃ iy iz j0 j1 j2 j3, iw = .returned (.tuple #[.agg #[.bool iy, .slice iz j0 j1, .int .i64 j2], .bool j3]) /\
 ∀ j4 j5, New ix (.cells ⟨[.bool false, .slice none 0 0, .int .i64 0]⟩ 36 (0, 0)) j4 j5 ->
 ∃ wv_76, Stores P 36 ⟨j4, 0, none⟩ (.agg #[.bool iy, .slice iz j0 j1, .int .i64 j2]) j5 wv_76 /\
 (bq = true ->
 laws_FnTaxIn_s_j0 r ao bw cg gd h7 hb il j3 j4 wv_76 cf wv_76.drew R) /\
 (bq = false ->
 laws_FnTaxIn_s_j0 r ao bw cg gd h7 hb il j3 j4 wv_76 false wv_76.drew R))
theorem laws_FnTaxIn_s_ret {a : Option Addr} {a0 a1 : Nat} (h : laws_FnTaxIn_s a a0 a1 w R) : Ret P 5 [.slice a a0 a1] w R := Ret.of_fsem Tryz.func5 rfl (Eq.mp (show _ = fsem P Tryz.f5 (fun k => []) _ R w from by kernel_rfl) h)
end Go.Proofs.YtbgokfhcgcoipaaGreatDoor
