/-
  Contracts: the laws' marks at lists of numbers, and their texts.
-/
import Derived.Test.YtfbmjimhjlmhkaaDoorDInts
import Derived.Test.YtfbmjimhjlmhkaaDoorSxMark
import Derived.Laws.BytesArg
namespace Go.Proofs.YtfbmjimhjlmhkaaDoor
open Go Go.Proofs.YtfbmjimhjlmhkaaDoor.Sx
set_option linter.unusedVariables false
set_option linter.unusedSimpArgs false

theorem laws_markIntS_c {w : World} {B : Nat} {p : Option Addr} {n c : Nat} {zs : List Int} {k : Int} (h : Own w B T_int 1 p n c (zs.map (Value.int .i64))) (h0 : 0 ≤ k) (h1 : k + n ≤ 9223372036854775807) :
    Ret P n_laws_markIntS [.slice p n c, .int .i64 k] w fun v w' => v = .int .i64 (k + n) ∧ Own w' B T_int 1 p n c ((mkI n k).map (Value.int .i64)) ∧ Chg (p.map (·.block)).toList w w' := by
  have hz : zs.length = n := by have := h.len; simpa using this
  have hcap := h.le
  refine laws_markIntS_ret ?_
  unfold laws_markIntS
  refine ⟨fun k1 i wr => ∃ j : Nat, i = j ∧ j ≤ n ∧ k1 = k + j ∧ Own wr B T_int 1 p n c ((mkI j k ++ zs.drop j).map (Value.int .i64)) ∧ Chg (p.map (·.block)).toList w wr, fun _ i _ => n - i.toNat, ⟨0, rfl, by omega, by omega, by simpa [mkI] using h, Chg.refl _ _⟩, ?_⟩
  intro junk wr k1 i ⟨j, hij, hj, hk1, ho, hch⟩
  subst hij; subst hk1
  refine ifD (fun hlt => ?_) (fun hge => ?_)
  · obtain ⟨b, w2, hp, st, ho2, ch2, sz2⟩ := ho.set (P := P) (t := T_int) (i := j) (v := .int .i64 (k + j)) (by simp [mkI_len]; omega) (by kernel_rfl) rfl
    subst hp
    refine ⟨⟨by omega, by omega⟩, w2, by simpa using st, exW ⟨by omega, by omega⟩ (exW ⟨by omega, by omega⟩ ⟨⟨j + 1, by omega, by omega, by omega, ?_, hch.trans ch2⟩, ?_⟩)⟩
    · have e : (mkI j k ++ zs.drop j).set j (k + (j : Nat)) = mkI (j + 1) k ++ zs.drop (j + 1) := by
        rw [List.set_append_right _ _ (by rw [mkI_len]; omega), mkI_len, Nat.sub_self, mkI_succ, List.drop_eq_getElem_cons (show j < zs.length by omega), List.set_cons_zero, List.append_assoc]
        rfl
      rw [← e, List.map_set]
      exact ho2
    · show n - ((j : Int) + 1).toNat < n - (j : Int).toNat
      omega
  · have hjn : j = n := by omega
    subst hjn
    rw [List.drop_of_length_le (by omega), List.append_nil] at ho
    exact ⟨rfl, ho, hch⟩

theorem laws_heldIntS_c {w : World} {p : Option Addr} {n c : Nat} {k : Int} (h : IntsR w p n c (mkI n k)) (h0 : 0 ≤ k) (h1 : k + n ≤ 9223372036854775807) :
    Ret P n_laws_heldIntS [.slice p n c, .int .i64 k] w fun v w' => v = .int .i64 (k + n) ∧ Ext w w' := by
  have hcap := h.2.1; have hcm := h.2.2.1
  refine laws_heldIntS_ret ?_
  unfold laws_heldIntS
  refine ⟨fun k1 i wr => ∃ j : Nat, i = j ∧ j ≤ n ∧ k1 = k + j ∧ Ext w wr, fun _ i _ => n - i.toNat, ⟨0, rfl, by omega, by omega, Ext.refl _⟩, ?_⟩
  intro junk wr k1 i ⟨j, hij, hj, hk1, hx⟩
  subst hij; subst hk1
  refine ifD (fun hlt => ?_) (fun hge => ?_)
  · have hjn : j < n := by omega
    obtain ⟨a, hpa, hl⟩ := (h.ext hx).at (P := P) (t := T_int) (by kernel_rfl) hjn
    subst hpa
    rw [mkI_get] at hl
    refine ⟨⟨by omega, by omega⟩, k + (j : Nat), by simpa using hl, ifD (fun hne => absurd rfl hne) (fun _ => exW ⟨by omega, by omega⟩ (exW ⟨by omega, by omega⟩ ⟨⟨j + 1, by omega, by omega, by omega, hx⟩, ?_⟩))⟩
    show n - ((j : Int) + 1).toNat < n - (j : Int).toNat
    omega
  · have hjn : j = n := by omega
    subst hjn
    exact ⟨rfl, hx⟩

theorem bne_no {a b : Bool} (e : a = b) : ¬ (!(a == b)) = true := by subst e; simp
theorem convs_bytes {w : World} {s e d ee : TypeId} {r : Nat} (xs : List Int) (hs : P.underlying s = some (.slice e)) (he : P.underlying e = some (.int .u8)) (hd : P.underlying d = some .string) (hb : Blk w r ee (xs.map (Value.int .u8))) :
    Convs P s d (.slice (some ⟨r, 0, none⟩) xs.length xs.length) (.string (strOfNums xs)) w :=
  run_convert_bytes_arg w s e hs he r 0 xs.length xs.length xs rfl (fun i hi => by
    have := hb.seg i (.int .u8 (xs.getD i 0)) (by simp [List.getD_eq_getElem?_getD, List.getElem?_eq_getElem hi])
    simpa using this) d hd

theorem laws_markText_c {k : Int} (hk : k ≤ 1000000000000000000) (w : World) : Ret P n_laws_markText [.int .i64 k] w fun v w' => v = .string (mtext k) ∧ Ext w w' := by
  refine laws_markText_ret ?_
  unfold laws_markText
  refine ifD (fun h => ⟨by rw [mtext, if_pos h], Ext.refl _⟩) (fun h => ?_)
  refine ⟨fun k1 out wr => 0 ≤ k1 ∧ k1 ≤ k ∧ out.size + k1 ≤ k ∧ mdig k1.toNat out = mdig k.toNat ByteArray.empty ∧ Ext w wr, fun k1 _ _ => k1.toNat, ⟨by omega, by omega, by show (0 : Int) + k ≤ k; omega, rfl, Ext.refl _⟩, ?_⟩
  intro junk wr k1 out ⟨h0, hle, hsz, hm, hx⟩
  refine ifD (fun hpos => ?_) (fun hz => ?_)
  · have ht : Int.tmod k1 10 = k1 % 10 := Int.tmod_eq_emod_of_nonneg h0
    have htd : Int.tdiv k1 10 = k1 / 10 := Int.tdiv_eq_ediv_of_nonneg h0
    refine ⟨by decide, _, rfl, ?_⟩
    rw [ht]
    refine exW ⟨by omega, by omega⟩ ⟨_, rfl, ?_⟩
    have wu : IntKind.wrap .u8 (48 + k1 % 10) = 48 + k1 % 10 := by
      simp only [IntKind.wrap, IntKind.bits, IntKind.signed]
      simp
      omega
    rw [wu]
    intro r w1 hn
    refine ⟨_, convs_bytes (ee := T_uint8) [48 + k1 % 10] (e := T_uint8) (by kernel_rfl) (by kernel_rfl) (by kernel_rfl) hn.blk, ?_, _, rfl, by decide, ?_⟩
    · rw [strOfNums_size]; simp; omega
    rw [htd]
    refine exW ⟨by omega, by omega⟩ ⟨⟨by omega, by omega, ?_, ?_, hx.trans hn.ext⟩, ?_⟩
    · rw [ByteArray.size_append, strOfNums_size]; simp; omega
    · rw [← hm, mdig_pos (k := k1.toNat) (by omega)]
      have e1 : (k1 / 10).toNat = k1.toNat / 10 := by omega
      have e2 : (48 + k1 % 10) = ((48 + k1.toNat % 10 : Nat) : Int) := by omega
      rw [e1, e2]
    · show (k1 / 10).toNat < k1.toNat
      omega
  · have : k1.toNat = 0 := by omega
    rw [this, mdig_zero] at hm
    refine ⟨?_, _, rfl, ?_, hx⟩
    · show 1 + out.size ≤ 9223372036854775807
      omega
    · rw [mtext, if_neg h, hm]

end Go.Proofs.YtfbmjimhjlmhkaaDoor
