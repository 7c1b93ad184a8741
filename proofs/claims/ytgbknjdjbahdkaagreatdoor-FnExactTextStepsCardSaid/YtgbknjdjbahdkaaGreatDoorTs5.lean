/-
  Parts of the proof of textSteps_holds: CTextDecI, CPercent, CTextPcL, CTextPercent, CStepsOk, CStepsText, CTextStL, CIntTextI, CTextIntS, CCutAtS, LW, CTextInt, CPushF, CRowX, CTextStI, CTextSteps, SxFlS, DMarkS, DM, WTextSteps, SxRow, CTab, CTabP, CTabE.
  Conditions: none.
-/
import Derived.WalkKit
import Derived.Deep.RegionWith
import Derived.Shelf.Strconv.AtoiAll
import Derived.ProofKit
import Derived.Test.YtgbknjdjbahdkaaGreatDoorRows
import Derived.OpenShut
import Derived.Lib.LaidTab
import Derived.Test.YtgbknjdjbahdkaaGreatDoorTs4
set_option linter.unusedVariables false
set_option linter.unusedSimpArgs false
namespace Go.ChangeShapes
end Go.ChangeShapes
namespace Go.RowKit
end Go.RowKit
namespace Go.Shelf
end Go.Shelf
namespace Go.WideShapes
end Go.WideShapes

namespace Go.Proofs.YtgbknjdjbahdkaaGreatDoor
open Go Go.Proofs.YtgbknjdjbahdkaaGreatDoor.Sx
theorem own_dec0 (W : World) (B : Nat) : Owns W B [.bool false, .slice none 0 0, .int .i64 0] zeroDec [] :=
  Owns.append (Owns.bool _ _ false) (Owns.append (Owns.ints (zs := []) (Own.nil W B T_int 1)) (Owns.int _ _ 0))
theorem okI_eq (l : List UInt8) : okI l = (decide ((partsI l).length <= 2) && decide ((dgI l).length <= 100) && numOk (whI l)) := rfl
theorem le_sum_of_mem {x : Nat} : ∀ {l : List Nat}, x ∈ l -> x <= l.sum
  | a :: r, h => by
    rw [List.sum_cons]
    rcases List.mem_cons.1 h with e | e
    · omega
    · have := le_sum_of_mem e; omega
theorem joinTail_nil : ∀ l : List (List UInt8), Lib.joinTail [] l = l.flatten
  | [] => rfl
  | a :: r => by simp [Lib.joinTail, joinTail_nil r]
theorem joinT_flat : ∀ ps : List ByteArray, (joinT (S []) ps).data.toList = (ps.map (·.data.toList)).flatten
  | [] => rfl
  | a :: r => by
    have := joinTail_nil (r.map (·.data.toList))
    simp [joinT, Lib.join_cons, this]
theorem impl_TextDec_o {w : World} (s : ByteArray) (hs : s.size <= 1048576) (hp : TabP w) : Ret P n_impl_TextDec [.string s] w fun v w' => ∃ vs f, v = .tuple #[.agg ⟨vs⟩, .bool (tdOk s)] /\ Owns w' w.heap.size vs (if tdOk s then cand s.data.toList else zeroDec) f /\ f.Nodup /\ Ext w w' := by
  obtain ⟨l, hl⟩ : ∃ l, s.data.toList = l := ⟨_, rfl⟩
  have hsl : s.size = l.length := by rw [ba_size, hl]
  refine impl_TextDec_ret ?_
  unfold impl_TextDec
  intro r w1 hn1
  have e1 := hn1.r_eq; have z1 := hn1.size
  have zero : ∀ W, Ext w W -> Blk W r T_impl_Dec [.bool false, .slice none 0 0, .int .i64 0] -> tdOk s = false -> ∃ wv_7, Stores P T_impl_Dec ⟨r, 0, none⟩ (.agg #[(.bool false), (.slice none 0 0), (.int .i64 0)]) W wv_7 /\
      ∃ (r0 : Bool) (r1_p : Option Addr) (r1_n : Nat) (r1_c : Nat) (r2 : Int), Loads P T_impl_Dec ⟨r, 0, none⟩ (.agg #[(.bool r0), (.slice r1_p r1_n r1_c), (.int .i64 r2)]) wv_7 /\ ∃ vs f, (Value.tuple #[(.agg #[(.bool r0), (.slice r1_p r1_n r1_c), (.int .i64 r2)]), (.bool false)]) = .tuple #[.agg ⟨vs⟩, .bool (tdOk s)] /\ Owns wv_7 w.heap.size vs (if tdOk s then cand s.data.toList else zeroDec) f /\ f.Nodup /\ Ext w wv_7 := by
    intro W hW hb hno
    obtain ⟨w6, st6, hb6, ch, sz⟩ := hb.storeA0 (P := P) (t := T_impl_Dec) (xs := [.bool false, .slice none 0 0, .int .i64 0]) (by kernel_rfl) rfl (by simp [Value.oneCell'])
    refine ⟨w6, st6, _, _, _, _, _, hb6.loadA0 (by kernel_rfl), [.bool false, .slice none 0 0, .int .i64 0], [], by rw [hno], ?_, List.nodup_nil, hW.chg ch (by simp; omega)⟩
    rw [hno]
    exact own_dec0 _ _
  -- the digits behind the sign are cut, joined, read
  have main : ∀ (dg : ByteArray), dg.data.toList = dgI l -> impl_TextDec_j1 s r (decide (l.head? = some 45)) dg w1 fun v w' => ∃ vs f, v = .tuple #[.agg ⟨vs⟩, .bool (tdOk s)] /\ Owns w' w.heap.size vs (if tdOk s then cand s.data.toList else zeroDec) f /\ f.Nodup /\ Ext w w' := by
    intro dg hdg
    have hdl : dg.size <= s.size := by
      rw [ba_size, hdg, hsl]
      unfold dgI
      split
      · rw [List.length_drop]; omega
      · omega
    unfold impl_TextDec_j1
    refine Ret.at (impl_CutAt_c dg 46 (by omega)) ?_
    rintro v w2 ⟨p, n, k, ps, hv, hps, hcut, y2⟩
    subst hv
    have X2 := hn1.ext.trans y2
    rw [hdg] at hcut
    have hn := hps.1
    have hpl : ps.length = (partsI l).length := by
      unfold partsI
      rw [<- hcut, List.length_map]
    have no : okI l = false -> tdOk s = false := fun h => by
      cases htd : tdOk s with
      | false => rfl
      | true =>
        have := (readI_yes htd).1
        rw [hl, h] at this
        cases this
    have l2 := y2.le
    refine ⟨_, _, _, rfl, ?_⟩
    refine ifD (fun h2 => ifT (zero w2 X2 (hn1.blk.ext y2) (no (by rw [okI_eq, decide_eq_false (show ¬ (partsI l).length <= 2 by omega)]; simp)))) (fun h2 => ifD (fun h100 => zero w2 X2 (hn1.blk.ext y2) (no (by rw [okI_eq, decide_eq_false (show ¬ (dgI l).length <= 100 by rw [<- hdg, <- ba_size]; omega)]; simp))) (fun h100 => ?_))
    have hparts : decide ((partsI l).length <= 2) = true := decide_eq_true (by omega)
    have hdgl : (dgI l).length <= 100 := by rw [<- hdg, <- ba_size]; omega
    have hlen : decide ((dgI l).length <= 100) = true := decide_eq_true hdgl
    have hsize : ∀ x ∈ ps, x.size <= 100 := fun x hx => by
      have h1 : x.data.toList ∈ cuts 46 [] (dgI l) := by rw [<- hcut]; exact List.mem_map.2 ⟨x, hx, rfl⟩
      have h3 := cuts_flat (c := 46) (dgI l) []
      have h4 : x.data.toList.length <= (cuts 46 [] (dgI l)).flatten.length := by
        rw [List.length_flatten]
        exact le_sum_of_mem (List.mem_map.2 ⟨_, h1, rfl⟩)
      rw [h3, List.nil_append] at h4
      have h5 := List.length_filter_le (fun x => x != 46) (dgI l)
      rw [ba_size]; omega
    have main3 : ∀ sc : Int, sc = ((scI l : Nat) : Int) -> impl_TextDec_j3 s r (decide (l.head? = some 45)) p n k sc w2 fun v w' => ∃ vs f, v = .tuple #[.agg ⟨vs⟩, .bool (tdOk s)] /\ Owns w' w.heap.size vs (if tdOk s then cand s.data.toList else zeroDec) f /\ f.Nodup /\ Ext w w' := by
      intro sc hsc
      subst hsc
      unfold impl_TextDec_j3
      refine Ret.at (impl_Join_c hps (S []) (k := 100) hsize (by have : (S []).size = 0 := rfl; rw [this]; omega) (by omega)) ?_
      rintro v w3 ⟨hv, y3⟩
      subst hv
      have X3 := X2.trans y3
      have ly3 := y3.le; have lz1 := hn1.blk.lt
      have hjd : (joinT (S []) ps).data.toList = (dgI l).filter (fun x => x != 46) := by
        rw [joinT_flat, hcut, cuts_flat, List.nil_append]
      have hjl : (joinT (S []) ps).size <= 100 := by
        rw [ba_size, hjd]
        have := List.length_filter_le (fun x => x != 46) (dgI l)
        omega
      refine ⟨_, rfl, fun dg2 W => strip dg2.data.toList = whI l /\ dg2.size <= 100 /\ W = w3, fun dg2 _ => dg2.size, ⟨by rw [hjd]; rfl, hjl, rfl⟩, ?_⟩
      intro junk W whole ⟨hst, hsz, hW⟩
      rw [hW]
      have hgl : whole.size = whole.data.toList.length := ba_size whole
      refine ifD (fun h1 => ?_) (fun h1 => ifF ?_)
      · have h0 : 0 < whole.data.toList.length := by omega
        obtain ⟨a, b, r2, hlist⟩ : ∃ a b r2, whole.data.toList = a :: b :: r2 := by
          match h : whole.data.toList, h0, hgl with
          | [], h0, _ => cases h0
          | [a], _, hgl => simp at hgl; omega
          | a :: b :: r2, _, _ => exact ⟨a, b, r2, rfl⟩
        refine ⟨by omega, whole.data.toList[0]'h0, ba_get (i := 0) h0, ifD (fun h48 => ?_) (fun h48 => ?_)⟩
        · have hc : whole.data.toList[0]'h0 = 48 := byte_eq.1 h48
          have hex : (whole.extract 1 whole.size).data.toList = whole.data.toList.drop 1 := by
            rw [ByteArray.data_extract, Array.toList_extract, List.extract_eq_take_drop, List.take_of_length_le (by rw [List.length_drop]; omega)]
          have hes : (whole.extract 1 whole.size).size = whole.size - 1 := by rw [ba_size, hex, List.length_drop, hgl]
          refine ⟨⟨by omega, by omega⟩, ⟨?_, by omega, rfl⟩, by show (whole.extract 1 whole.size).size < whole.size; omega⟩
          rw [hex, <- hst]
          have ha : a = 48 := by rw [<- hc]; simp [hlist]
          rw [hlist, ha, strip, if_pos rfl]
          rfl
        have hdone : whole.data.toList = whI l := by
          rw [<- hst]
          have ha : a ≠ 48 := fun ha => h48 (by
            have : whole.data.toList[0]'h0 = 48 := by simp [hlist, ha]
            rw [this]; rfl)
          rw [hlist, strip, if_neg ha]
        refine Ret.at (impl_TextNat_o whole (by omega)) ?_
        rintro v w5 ⟨pm, nm, cm, hv, him, y5⟩
        subst hv
        rw [hdone] at him ⊢
        refine ⟨_, _, _, _, rfl, ?_⟩
        refine Ret.at (impl_signed_c (neg := decide (l.head? = some 45)) him.ints.1) ?_
        rintro v w6 ⟨hv, y6⟩
        subst hv
        refine ⟨_, _, _, _, rfl, ?_⟩
        intro r1 w7 hn7
        have e7 := hn7.r_eq
        obtain ⟨w8, st8, hb8, y8⟩ := hn7.fill (P := P) (t := T_impl_Dec) (xs := [.bool (decide (l.head? = some 45) && !(if numOk (whI l) then digs (digV (whI l)) else []).isEmpty), .slice pm nm cm, .int .i64 ((scI l : Nat) : Int)]) (by simp [Value.oneCell']) (by kernel_rfl) rfl
        have Y8 := (y5.trans y6).trans y8
        have X8 := X3.trans Y8
        have l5 := y5.le; have l6 := y6.le; have l3 := X3.le
        refine ⟨w8, st8, ifN (fun hno => ifT (zero w8 X8 (hn1.blk.ext ((y2.trans y3).trans Y8)) (no (by rw [okI_eq, hno, Bool.and_false])))) (fun hyes => ?_)⟩
        rw [hyes, if_pos rfl] at him hb8
        have hrep : Reps w8 [.bool (decide (l.head? = some 45) && !(digs (digV (whI l))).isEmpty), .slice pm nm cm, .int .i64 ((scI l : Nat) : Int)] (candI l) := ⟨rfl, ⟨_, _, _, rfl, him.ints.ext (y6.trans y8)⟩, rfl, trivial⟩
        have hokI : okI l = true := by rw [okI_eq, hparts, hlen, hyes]; rfl
        refine ⟨_, _, _, _, _, hb8.loadA0 (by kernel_rfl), ?_⟩
        refine Ret.at (impl_DecText_c hrep rfl (hp.ext X8)) ?_
        rintro v w9 ⟨hv, y9⟩
        subst hv
        have X9 := X8.trans y9
        refine ⟨_, rfl, ifD (fun hne => zero w9 X9 (hn1.blk.ext (((y2.trans y3).trans Y8).trans y9)) ?_) (fun heq => ?_)⟩
        · cases htd : tdOk s with
          | false => rfl
          | true =>
            have := (readI_yes htd).2.2
            rw [hl] at this
            exact absurd this hne
        · have heq : decT (candI l) = s := by simpa using heq
          have hyes2 : tdOk s = true := readI_ok (by rw [hl]; exact hokI) (by rw [hl]; exact heq)
          have hcand := (readI_yes hyes2).2.1
          rw [hl] at hcand
          obtain ⟨w10, st10, hb10, ch10, sz10⟩ := (hn1.blk.ext (((y2.trans y3).trans Y8).trans y9)).storeA0 (P := P) (t := T_impl_Dec) (xs := [.bool (decide (l.head? = some 45) && !(digs (digV (whI l))).isEmpty), .slice pm nm cm, .int .i64 ((scI l : Nat) : Int)]) (by kernel_rfl) rfl (by simp [Value.oneCell'])
          refine ⟨_, _, _, _, _, (hb8.ext y9).loadA0 (by kernel_rfl), w10, st10, _, _, _, _, _, hb10.loadA0 (by kernel_rfl), [.bool (decide (l.head? = some 45) && !(digs (digV (whI l))).isEmpty), .slice pm nm cm, .int .i64 ((scI l : Nat) : Int)], (pm.map (·.block)).toList, by rw [hyes2], ?_, nodup_opt pm, X9.chg ch10 (by simp; omega)⟩
          rw [hyes2, if_pos rfl, hl, <- hcand]
          have ho1 := ((him.ext (y6.trans y8)).ext y9).mono (base' := r + 1) (by omega)
          have ho2 : Owns w9 (r + 1) [.bool (decide (l.head? = some 45) && !(digs (digV (whI l))).isEmpty), .slice pm nm cm, .int .i64 ((scI l : Nat) : Int)] (candI l) ((pm.map (·.block)).toList) := by
            have := Owns.append (Owns.int2 (b := decide (l.head? = some 45) && !(digs (digV (whI l))).isEmpty) ho1) (Owns.int w9 (r + 1) ((scI l : Nat) : Int))
            rwa [List.append_nil] at this
          exact (ho2.chg1 ch10 (by omega)).mono (by omega)
      · have hdone : whole.data.toList = whI l := by rw [<- hst, strip_one (by omega)]
        refine Ret.at (impl_TextNat_o whole (by omega)) ?_
        rintro v w5 ⟨pm, nm, cm, hv, him, y5⟩
        subst hv
        rw [hdone] at him ⊢
        refine ⟨_, _, _, _, rfl, ?_⟩
        refine Ret.at (impl_signed_c (neg := decide (l.head? = some 45)) him.ints.1) ?_
        rintro v w6 ⟨hv, y6⟩
        subst hv
        refine ⟨_, _, _, _, rfl, ?_⟩
        intro r1 w7 hn7
        have e7 := hn7.r_eq
        obtain ⟨w8, st8, hb8, y8⟩ := hn7.fill (P := P) (t := T_impl_Dec) (xs := [.bool (decide (l.head? = some 45) && !(if numOk (whI l) then digs (digV (whI l)) else []).isEmpty), .slice pm nm cm, .int .i64 ((scI l : Nat) : Int)]) (by simp [Value.oneCell']) (by kernel_rfl) rfl
        have Y8 := (y5.trans y6).trans y8
        have X8 := X3.trans Y8
        have l5 := y5.le; have l6 := y6.le; have l3 := X3.le
        refine ⟨w8, st8, ifN (fun hno => ifT (zero w8 X8 (hn1.blk.ext ((y2.trans y3).trans Y8)) (no (by rw [okI_eq, hno, Bool.and_false])))) (fun hyes => ?_)⟩
        rw [hyes, if_pos rfl] at him hb8
        have hrep : Reps w8 [.bool (decide (l.head? = some 45) && !(digs (digV (whI l))).isEmpty), .slice pm nm cm, .int .i64 ((scI l : Nat) : Int)] (candI l) := ⟨rfl, ⟨_, _, _, rfl, him.ints.ext (y6.trans y8)⟩, rfl, trivial⟩
        have hokI : okI l = true := by rw [okI_eq, hparts, hlen, hyes]; rfl
        refine ⟨_, _, _, _, _, hb8.loadA0 (by kernel_rfl), ?_⟩
        refine Ret.at (impl_DecText_c hrep rfl (hp.ext X8)) ?_
        rintro v w9 ⟨hv, y9⟩
        subst hv
        have X9 := X8.trans y9
        refine ⟨_, rfl, ifD (fun hne => zero w9 X9 (hn1.blk.ext (((y2.trans y3).trans Y8).trans y9)) ?_) (fun heq => ?_)⟩
        · cases htd : tdOk s with
          | false => rfl
          | true =>
            have := (readI_yes htd).2.2
            rw [hl] at this
            exact absurd this hne
        · have heq : decT (candI l) = s := by simpa using heq
          have hyes2 : tdOk s = true := readI_ok (by rw [hl]; exact hokI) (by rw [hl]; exact heq)
          have hcand := (readI_yes hyes2).2.1
          rw [hl] at hcand
          obtain ⟨w10, st10, hb10, ch10, sz10⟩ := (hn1.blk.ext (((y2.trans y3).trans Y8).trans y9)).storeA0 (P := P) (t := T_impl_Dec) (xs := [.bool (decide (l.head? = some 45) && !(digs (digV (whI l))).isEmpty), .slice pm nm cm, .int .i64 ((scI l : Nat) : Int)]) (by kernel_rfl) rfl (by simp [Value.oneCell'])
          refine ⟨_, _, _, _, _, (hb8.ext y9).loadA0 (by kernel_rfl), w10, st10, _, _, _, _, _, hb10.loadA0 (by kernel_rfl), [.bool (decide (l.head? = some 45) && !(digs (digV (whI l))).isEmpty), .slice pm nm cm, .int .i64 ((scI l : Nat) : Int)], (pm.map (·.block)).toList, by rw [hyes2], ?_, nodup_opt pm, X9.chg ch10 (by simp; omega)⟩
          rw [hyes2, if_pos rfl, hl, <- hcand]
          have ho1 := ((him.ext (y6.trans y8)).ext y9).mono (base' := r + 1) (by omega)
          have ho2 : Owns w9 (r + 1) [.bool (decide (l.head? = some 45) && !(digs (digV (whI l))).isEmpty), .slice pm nm cm, .int .i64 ((scI l : Nat) : Int)] (candI l) ((pm.map (·.block)).toList) := by
            have := Owns.append (Owns.int2 (b := decide (l.head? = some 45) && !(digs (digV (whI l))).isEmpty) ho1) (Owns.int w9 (r + 1) ((scI l : Nat) : Int))
            rwa [List.append_nil] at this
          exact (ho2.chg1 ch10 (by omega)).mono (by omega)
    unfold impl_TextDec_j2
    refine ifD (fun he2 => ?_) (fun hne2 => main3 0 ?_)
    · obtain ⟨a, hpa, hla⟩ := hps.at (P := P) (t := T_string) (k := 1) (by kernel_rfl) (by omega)
      subst hpa
      refine ⟨⟨by omega, by omega⟩, _, hla, main3 _ ?_⟩
      unfold scI
      rw [if_pos (by omega), <- List.getElem_eq_getD (h := by omega)]
      have : (partsI l)[1]'(by omega) = (ps[1]'(by omega)).data.toList := by
        unfold partsI
        simp only [<- hcut, List.getElem_map]
      rw [this, ba_size]
    · unfold scI
      rw [if_neg (by omega)]; rfl
  unfold impl_TextDec_j0
  rw [hl] at main
  rw [ne_empty, hl]
  have negEq : ∀ (h0 : 0 < l.length), decide ((((l[0]'h0).toNat : Nat) : Int) = 45) = decide (l.head? = some 45) := fun h0 => by
    cases l with
    | nil => cases h0
    | cons c r => exact decide_eq_decide.2 (by
        show ((c.toNat : Nat) : Int) = (((45 : UInt8).toNat : Nat) : Int) ↔ _
        rw [byte_eq]; simp)
  refine ifN (fun hne => ?_) (fun hemp => ?_)
  · have h0 : 0 < l.length := by
      cases l with
      | nil => cases hne
      | cons _ _ => exact Nat.succ_pos _
    refine ⟨by omega, l[0]'h0, by subst hl; exact ba_get (i := 0) h0, ?_⟩
    rw [negEq h0]
    refine ⟨fun h45 => ⟨⟨by omega, by omega⟩, main _ ?_⟩, fun h45 => main s ?_⟩
    · unfold dgI
      rw [if_pos (of_decide_eq_true h45), ByteArray.data_extract, Array.toList_extract, hl, List.extract_eq_take_drop, List.take_of_length_le (by rw [List.length_drop]; omega)]
    · unfold dgI
      rw [if_neg (of_decide_eq_false h45), hl]
  · have hl0 : l = [] := List.isEmpty_iff.1 hemp
    refine ifF ?_
    have := main s (by rw [hl, hl0]; rfl)
    rwa [show decide (l.head? = some 45) = false from by rw [hl0]; rfl] at this
end Go.Proofs.YtgbknjdjbahdkaaGreatDoor
namespace Go.Proofs.YtgbknjdjbahdkaaGreatDoor
open Go Go.Proofs.YtgbknjdjbahdkaaGreatDoor.Sx
def percentT : List D0 -> ByteArray
  | [.bool b, .ints z, .int s] => if taxOk [.bool b, .ints z, .int s] then decT (dnn (lowM ((val z).toNat * 100) s.toNat) (lowS ((val z).toNat * 100) s.toNat)) ++ S [37] else S []
  | _ => S []
theorem percentT_size (d : List D0) : (percentT d).size <= 200 := by
  unfold percentT
  split
  · split
    · have := decT_size (dnn (lowM ((val ‹List Int›).toNat * 100) (‹Int›).toNat) (lowS ((val ‹List Int›).toNat * 100) (‹Int›).toNat))
      rw [ByteArray.size_append]
      show _ + 1 <= _
      omega
    · show 0 <= _; omega
  · show 0 <= _; omega
theorem spec_Percent_c {w : World} {xs : List Value} {dx : List D0} (h : Reps w xs dx) (hc : dx.map D0.code = [.bool, .ints, .int]) :
    Ret P n_spec_Percent [.agg ⟨xs⟩] w fun v w' => v = .string (percentT dx) /\ Ext w w' := by
  have hr := h
  obtain ⟨a0, ap, an, ac, az, a2, rfl, rfl, ha⟩ := open_Dec h hc
  refine spec_Percent_ret ?_
  unfold spec_Percent
  intro r w1 hn1
  refine ⟨_, _, _, _, _, hn1.blk.loadA0 (by kernel_rfl), ?_⟩
  refine Ret.at (spec_TaxRateOk_c (hr.ext hn1.ext) rfl) ?_
  rintro v w2 ⟨hv, y2⟩
  subst hv
  have X2 := hn1.ext.trans y2
  have bk := hn1.blk.ext y2
  refine ⟨_, rfl, ifN (fun e => ⟨by simp only [percentT, e, Bool.false_eq_true, if_false], X2⟩) (fun e => ?_)⟩
  have hgoal : percentT [.bool a0, .ints az, .int a2] = decT (dnn (lowM ((val az).toNat * 100) a2.toNat) (lowS ((val az).toNat * 100) a2.toNat)) ++ S [37] := by simp only [percentT, e, if_true]
  obtain ⟨m, t, rfl, rfl, rfl, ht, em, et, hm⟩ := taxOk_nn e
  rw [hgoal, em, et]
  have l1 := one_len hm; have l2 := hundred_len hm
  have h100 : (digs 100).length <= 1 := one_len (by decide)
  have lM : (digs (lowM (m * 100) t)).length <= 2 := Nat.le_trans (digs_mono_len (lowM_le _ _)) l2
  have hr2 : Reps w2 [.bool false, .slice ap an ac, .int .i64 (t : Int)] (dnn m t) := hr.ext X2
  have fin : ∀ q, decT q = decT q := fun _ => rfl
  refine ⟨_, _, _, _, _, bk.loadA0 (by kernel_rfl), ?_⟩
  refine Ret.at (spec_DecLow_n hr2 (by omega) ht) ?_
  rintro v w3 ⟨vs3, hv, hp3, y3⟩
  subst hv
  have hp3' := hp3
  obtain ⟨d0, dp, dn, dc, dz, ds, rfl, _, _⟩ := open_Dec hp3' rfl
  have lL : (digs (lowM m t)).length <= 1 := Nat.le_trans (digs_mono_len (lowM_le _ _)) l1
  have hLm : lowM m t < 1000000000 := Nat.lt_of_le_of_lt (lowM_le _ _) hm
  have hLt := (lowS_spec m t).1
  have lL2 := hundred_len hLm
  obtain ⟨tw1, tw2⟩ := low_twice m t 100
  refine ⟨_, _, _, _, _, rfl, ?_⟩
  refine Ret.at (spec_IntOf_c (n := 100) (by omega) (by omega)) ?_
  rintro v w4 ⟨vs4, f4, hv, ho4, _, y4⟩
  subst hv
  have e100 : enc 100 = [.bool false, .ints (digs 100)] := enc_nat 100
  rw [e100] at ho4
  obtain ⟨g0, gp, gn, gc, gz, rfl, hg, hgi⟩ := open_Signed ho4.reps rfl
  simp only [List.cons.injEq, D0.bool.injEq, D0.ints.injEq, and_true] at hg
  obtain ⟨rfl, rfl⟩ := hg
  refine ⟨_, _, _, _, rfl, ?_⟩
  have hd5 : Reps w4 [.bool false, .slice gp gn gc, .int .i64 0] (dnn 100 0) := ⟨rfl, ⟨_, _, _, rfl, hgi⟩, rfl, trivial⟩
  refine Ret.at (spec_DecMul_n (hp3.ext y4) hd5 (by omega) (by omega) ⟨by omega, by omega⟩ ⟨by omega, by omega⟩ (by omega) (by omega)) ?_
  rintro v w6 ⟨vs6, f6, hv, ho6, y6⟩
  subst hv
  rw [Int.add_zero] at ho6
  have hp6 := ho6.reps
  have hp6' := hp6
  obtain ⟨c0, cp, cn, cc, cz, cs, rfl, _, _⟩ := open_Dec hp6' rfl
  refine ⟨_, _, _, _, _, _, rfl, ?_⟩
  intro r7 w7 hn7
  obtain ⟨w8, st8, hb8, y8⟩ := hn7.fill (P := P) (t := T_impl_Dec) (xs := [.bool c0, .slice cp cn cc, .int .i64 cs]) (by simp [Value.oneCell']) (by kernel_rfl) rfl
  refine ⟨w8, st8, ifN (fun hh => absurd hh (by simp)) (fun _ => ?_)⟩
  refine ⟨_, _, _, _, _, hb8.loadA0 (by kernel_rfl), ?_⟩
  refine Ret.at (spec_DecLow_n (hp6.ext y8) (by omega) (by omega)) ?_
  rintro v w9 ⟨vs9, hv, hp9, y9⟩
  subst hv
  rw [tw1, tw2] at hp9
  have hp9' := hp9
  obtain ⟨e0, ep, en, ec, ez, es, rfl, _, _⟩ := open_Dec hp9' rfl
  refine ⟨_, _, _, _, _, rfl, ?_⟩
  refine Ret.at (spec_DecText_c hp9 rfl) ?_
  rintro v w10 ⟨hv, y10⟩
  subst hv
  have N := decT_size (dnn (lowM (m * 100) t) (lowS (m * 100) t))
  refine ⟨_, rfl, ?_, _, rfl, rfl, (((((X2.trans y3).trans y4).trans y6).trans y8).trans y9).trans y10⟩
  show _ + 1 <= _
  omega
theorem impl_Percent_c {w : World} {xs : List Value} {dx : List D0} (h : Reps w xs dx) (hc : dx.map D0.code = [.bool, .ints, .int]) (hp : TabP w) :
    Ret P n_impl_Percent [.agg ⟨xs⟩] w fun v w' => v = .string (percentT dx) /\ Ext w w' := by
  have hr := h
  obtain ⟨a0, ap, an, ac, az, a2, rfl, rfl, ha⟩ := open_Dec h hc
  refine impl_Percent_ret ?_
  unfold impl_Percent
  intro r w1 hn1
  refine ⟨_, _, _, _, _, hn1.blk.loadA0 (by kernel_rfl), ?_⟩
  refine Ret.at (impl_TaxRateOk_c (hr.ext hn1.ext) rfl) ?_
  rintro v w2 ⟨hv, y2⟩
  subst hv
  have X2 := hn1.ext.trans y2
  have bk := hn1.blk.ext y2
  refine ⟨_, rfl, ifN (fun e => ⟨by simp only [percentT, e, Bool.false_eq_true, if_false], X2⟩) (fun e => ?_)⟩
  have hgoal : percentT [.bool a0, .ints az, .int a2] = decT (dnn (lowM ((val az).toNat * 100) a2.toNat) (lowS ((val az).toNat * 100) a2.toNat)) ++ S [37] := by simp only [percentT, e, if_true]
  obtain ⟨m, t, rfl, rfl, rfl, ht, em, et, hm⟩ := taxOk_nn e
  rw [hgoal, em, et]
  have l1 := one_len hm; have l2 := hundred_len hm
  have h100 : (digs 100).length <= 1 := one_len (by decide)
  have lM : (digs (lowM (m * 100) t)).length <= 2 := Nat.le_trans (digs_mono_len (lowM_le _ _)) l2
  have hr2 : Reps w2 [.bool false, .slice ap an ac, .int .i64 (t : Int)] (dnn m t) := hr.ext X2
  have fin : ∀ q, decT q = decT q := fun _ => rfl
  have D := Ext.drew w2
  have q0 := bk.ext D
  refine ⟨_, _, _, _, _, fun W hW => (q0.ext hW).loadA0 (by kernel_rfl), ?_⟩
  intro ss w3 f1
  refine Ret.at (impl_IntOf_c (n := 100) (by omega) (by omega)) ?_
  rintro v w4 ⟨vs4, f4, hv, ho4, _, y4⟩
  subst hv
  have e100 : enc 100 = [.bool false, .ints (digs 100)] := enc_nat 100
  rw [e100] at ho4
  obtain ⟨g0, gp, gn, gc, gz, rfl, hg, hgi⟩ := open_Signed ho4.reps rfl
  simp only [List.cons.injEq, D0.bool.injEq, D0.ints.injEq, and_true] at hg
  obtain ⟨rfl, rfl⟩ := hg
  refine ⟨_, _, _, _, rfl, y4, ?_⟩
  intro ss1 w5 f2
  have Y5 := (f1.ext.trans y4).trans f2.ext
  have hd5 : Reps w5 [.bool false, .slice gp gn gc, .int .i64 0] (dnn 100 0) := ⟨rfl, ⟨_, _, _, rfl, hgi.ext f2.ext⟩, rfl, trivial⟩
  refine Ret.at (impl_DecMul_n (hr2.ext (D.trans Y5)) hd5 (by omega) (by omega) ⟨by omega, by omega⟩ ⟨by omega, by omega⟩ (by omega) (by omega)) ?_
  rintro v w6 ⟨vs6, f6, hv, ho6, y6⟩
  subst hv
  rw [Int.add_zero] at ho6
  have hp6 := ho6.reps
  obtain ⟨d0, dp, dn, dc, dz, ds, rfl, hde, hdi⟩ := open_Dec hp6 rfl
  have hde' := hde
  simp only [dnn, List.cons.injEq, D0.bool.injEq, D0.ints.injEq, D0.int.injEq, and_true] at hde'
  obtain ⟨rfl, rfl, rfl⟩ := hde'
  refine ⟨_, _, _, _, _, _, rfl, ?_⟩
  intro ss2 w7 r7 f3 g3
  have Y7 := (Y5.trans y6).trans f3.ext
  have hb7 : Blk w7 r7 T_impl_Dec [.bool false, .slice none 0 0, .int .i64 0] := by
    have len0 := f1.len; have len1 := f2.len
    cases hs : ss[0]? with
    | none =>
      rw [List.getElem?_eq_none_iff, len0] at hs
      simp at hs
    | some v =>
      cases v with
      | some q =>
        obtain ⟨_, hq⟩ := f1.got (k := 0) rfl rfl hs
        have e := (f3.keeps (f2.keeps hs)).symm.trans g3
        have e : q = r7 := by simpa using e
        rw [e] at hq
        exact Blk.ext (show Blk w3 r7 T_impl_Dec [.bool false, .slice none 0 0, .int .i64 0] from hq) (((y4.trans f2.ext).trans y6).trans f3.ext)
      | none =>
        cases hs1 : ss1[0]? with
        | none =>
          rw [List.getElem?_eq_none_iff, len1, len0] at hs1
          simp at hs1
        | some v1 =>
          cases v1 with
          | some q =>
            obtain ⟨_, hq⟩ := f2.got (k := 0) hs rfl hs1
            have e := (f3.keeps hs1).symm.trans g3
            have e : q = r7 := by simpa using e
            rw [e] at hq
            exact Blk.ext (show Blk w5 r7 T_impl_Dec [.bool false, .slice none 0 0, .int .i64 0] from hq) (y6.trans f3.ext)
          | none => exact (f3.got (k := 0) hs1 rfl g3).2
  have hr7 : w2.drew.heap.size <= r7 := by
    have len0 := f1.len; have len1 := f2.len
    cases hs : ss[0]? with
    | none =>
      rw [List.getElem?_eq_none_iff, len0] at hs
      simp at hs
    | some v =>
      cases v with
      | some q =>
        obtain ⟨b, _⟩ := f1.got (k := 0) rfl rfl hs
        have e := (f3.keeps (f2.keeps hs)).symm.trans g3
        have e : q = r7 := by simpa using e
        omega
      | none =>
        cases hs1 : ss1[0]? with
        | none =>
          rw [List.getElem?_eq_none_iff, len1, len0] at hs1
          simp at hs1
        | some v1 =>
          cases v1 with
          | some q =>
            obtain ⟨b, _⟩ := f2.got (k := 0) hs rfl hs1
            have e := (f3.keeps hs1).symm.trans g3
            have e : q = r7 := by simpa using e
            have := (f1.ext.trans y4).le
            omega
          | none =>
            have b := (f3.got (k := 0) hs1 rfl g3).1
            have := (Y5.trans y6).le
            omega
  obtain ⟨w8, st8, hb8, ch, sz⟩ := hb7.storeA0 (P := P) (t := T_impl_Dec) (xs := [.bool false, .slice dp dn dc, .int .i64 (t : Int)]) (by kernel_rfl) rfl (by simp [Value.oneCell'])
  have Z8 : Ext w w8 := (X2.trans (D.trans Y7)).chg ch (by
    have := (X2.trans D).le
    simp; omega)
  have hp8 : Reps w8 [.bool false, .slice dp dn dc, .int .i64 (t : Int)] (dnn (m * 100) t) := ⟨rfl, ⟨_, _, _, rfl, IntsR.store3 hb7 (hdi.ext f3.ext) ch⟩, rfl, trivial⟩
  refine ⟨w8, st8, _, _, _, _, _, hb8.loadA0 (by kernel_rfl), ?_⟩
  refine Ret.at (impl_DecLow_n hp8 (by omega) ht) ?_
  rintro v w9 ⟨vs9, hv, hp9, y9⟩
  subst hv
  have hp9' := hp9
  obtain ⟨e0, ep, en, ec, ez, es, rfl, _, _⟩ := open_Dec hp9' rfl
  refine ⟨_, _, _, _, _, rfl, ?_⟩
  refine Ret.at (impl_DecText_c hp9 rfl (hp.ext (Z8.trans y9))) ?_
  rintro v w10 ⟨hv, y10⟩
  subst hv
  have N := decT_size (dnn (lowM (m * 100) t) (lowS (m * 100) t))
  refine ⟨_, rfl, ?_, _, rfl, rfl, (Z8.trans y9).trans y10⟩
  show _ + 1 <= _
  omega
end Go.Proofs.YtgbknjdjbahdkaaGreatDoor
namespace Go.Proofs.YtgbknjdjbahdkaaGreatDoor
open Go Go.Proofs.YtgbknjdjbahdkaaGreatDoor.Sx
def bodyT (s : ByteArray) : ByteArray := s.extract 0 (s.size - 1)
def lowD : List D0 -> List D0
  | [.bool b, .ints z, .int t] => dsn b (lowM (val z).toNat (t.toNat + 2)) (lowS (val z).toNat (t.toNat + 2))
  | _ => zeroDec
def tpOk (s : ByteArray) : Bool := decide (s.data.toList.getLast? = some 37) && (tdOk (bodyT s) && decide (percentT (lowD (cand (bodyT s).data.toList)) = s))
def tpR (s : ByteArray) : List D0 := if tpOk s then lowD (cand (bodyT s).data.toList) else zeroDec
theorem cand_parts {s : ByteArray} (h : tdOk s = true) : ∃ (b : Bool) (m t : Nat), cand s.data.toList = dsn b m t /\ (b = true -> m ≠ 0) /\ (digs m).length <= 6 /\ t <= 30 /\ decT (dsn b m t) = s := by
  unfold tdOk at h
  simp only [Bool.and_eq_true, decide_eq_true_eq] at h
  obtain ⟨hok, hT⟩ := h
  obtain ⟨m, t, k, hz, ht, ht30, hb, hm, _⟩ := decT_shape (b := decide (s.data.toList.head? = some 45)) (z := digs (digV (strip (filt s.data.toList)))) (s := (scaleG 0 s.data.toList : Nat)) hok
  have e : cand s.data.toList = dsn (decide (s.data.toList.head? = some 45)) m t := by
    unfold cand dsn
    rw [hz, ht]
  exact ⟨_, m, t, e, hb, hm, ht30, by rw [<- e]; exact hT⟩
theorem lowD_dsn (b : Bool) (m t : Nat) : lowD (dsn b m t) = dsn b (lowM m (t + 2)) (lowS m (t + 2)) := by
  show dsn b (lowM (val (digs m)).toNat ((t : Int).toNat + 2)) (lowS (val (digs m)).toNat ((t : Int).toNat + 2)) = _
  rw [val_digs, Int.toNat_natCast, Int.toNat_natCast]
theorem decT_inj {d e : List D0} (hd : d.map D0.code = [.bool, .ints, .int]) (he : e.map D0.code = [.bool, .ints, .int]) (h1 : decOk d = true) (h2 : decOk e = true) (h : decT d = decT e) : d = e := by
  have a := (cand_decT hd h1).1
  have b := (cand_decT he h2).1
  rw [h] at a
  exact a.symm.trans b
theorem decT_ne {d : List D0} (hd : d.map D0.code = [.bool, .ints, .int]) (h : decOk d = true) : decT d ≠ S [] := by
  intro e
  have a := (cand_decT hd h).2
  rw [e] at a
  exact absurd a (by decide)
theorem decT_no {d : List D0} (hd : d.map D0.code = [.bool, .ints, .int]) (h : decOk d = false) : decT d = S [] := by
  match d, hd, h with
  | [.bool b, .ints z, .int s], _, h =>
    show (if decOk [.bool b, .ints z, .int s] then _ else S []) = _
    rw [h]; rfl
theorem lowS_hund (M s : Nat) : lowS (M * 100) s <= s - 2 := by
  obtain ⟨h1, h2, h3⟩ := lowS_spec (M * 100) s
  rcases Nat.lt_or_ge (s - 2) (lowS (M * 100) s) with c | c
  · refine absurd ?_ (h3 (s - 2) c)
    have h4 : (10 : Nat) ^ (s - (s - 2)) ∣ 100 := by
      rcases Nat.lt_or_ge s 2 with g | g
      · rcases (show s = 0 ∨ s = 1 by omega) with rfl | rfl <;> decide
      · rw [show s - (s - 2) = 2 by omega]; decide
    exact Nat.mod_eq_zero_of_dvd (Nat.dvd_trans h4 (Nat.dvd_mul_left 100 M))
  · exact c
theorem body_size {s : ByteArray} (h : s.data.toList.getLast? = some 37) : 0 < s.size /\ s = bodyT s ++ S [37] := by
  obtain ⟨l, hl⟩ : ∃ l, s.data.toList = l := ⟨_, rfl⟩
  have hs : s.size = l.length := by rw [ba_size, hl]
  rw [hl] at h
  have hne : l ≠ [] := fun e => by rw [e] at h; cases h
  have h0 : 0 < l.length := List.length_pos_iff.2 hne
  refine ⟨by omega, ba_ext ?_⟩
  unfold bodyT
  rw [ByteArray.data_append, Array.toList_append, ByteArray.data_extract, Array.toList_extract, hl, List.extract_eq_take_drop, List.drop_zero, hs, Nat.sub_zero]
  show l = l.take (l.length - 1) ++ [37]
  rw [List.getLast?_eq_some_iff] at h
  obtain ⟨ys, rfl⟩ := h
  simp
theorem pct_room {s : ByteArray} {b : Bool} {m t : Nat} (hl : s.data.toList.getLast? = some 37) (hb : b = true -> m ≠ 0) (hm : (digs m).length <= 6) (ht : t <= 30) (hT : decT (dsn b m t) = bodyT s) (d : List D0) (hd : ∃ M S' : Nat, d = dsn false M S' ∨ d = dsn true M S') (hp : percentT d = s) : t + 2 <= 30 := by
  obtain ⟨h0, hs⟩ := body_size hl
  obtain ⟨M, S', hd⟩ := hd
  have key : ∀ b', percentT (dsn b' M S') = s -> t + 2 <= 30 := by
    intro b' hp
    have hM : (val (digs M)).toNat = M := by rw [val_digs]; omega
    have hp' : (if taxOk [.bool b', .ints (digs M), .int (S' : Int)] then decT (dnn (lowM ((val (digs M)).toNat * 100) ((S' : Int)).toNat) (lowS ((val (digs M)).toNat * 100) ((S' : Int)).toNat)) ++ S [37] else S []) = s := hp
    rw [hM, Int.toNat_natCast] at hp'
    by_cases hk : taxOk [.bool b', .ints (digs M), .int (S' : Int)] = true
    · rw [if_pos hk] at hp'
      obtain ⟨_, t', _, _, e3, ht', _⟩ := taxOk_nn hk
      rw [hs] at hp'
      have hbody : decT (dnn (lowM (M * 100) S') (lowS (M * 100) S')) = bodyT s := by
        have h1 := congrArg (fun x : ByteArray => x.data.toList) hp'
        simp only [ByteArray.data_append, Array.toList_append] at h1
        exact ba_ext (List.append_cancel_right h1)
      have hok2 : decOk (dsn b m t) = true := dsn_ok hb hm ⟨by omega, by omega⟩
      have hok1 : decOk (dnn (lowM (M * 100) S') (lowS (M * 100) S')) = true := by
        cases hq : decOk (dnn (lowM (M * 100) S') (lowS (M * 100) S')) with
        | true => rfl
        | false =>
          rw [decT_no rfl hq] at hbody
          exact absurd (hT.trans hbody.symm) (decT_ne rfl hok2)
      have he := decT_inj (d := dnn (lowM (M * 100) S') (lowS (M * 100) S')) (e := dsn b m t) rfl rfl hok1 hok2 (hbody.trans hT.symm)
      unfold dnn dsn at he
      simp only [List.cons.injEq, D0.int.injEq, and_true] at he
      have h5 := lowS_hund M S'
      have h6 := he.2.2
      omega
    · rw [if_neg hk] at hp'
      rw [<- hp'] at h0
      exact absurd h0 (by decide)
  rcases hd with rfl | rfl
  · exact key _ hp
  · exact key _ hp
theorem zeroDec_dsn : zeroDec = dsn false 0 ((0 : Nat) : Int) := by unfold zeroDec dsn; rw [digs_zero]; rfl
theorem owns_nd2 {W : World} {B : Nat} {b : Bool} {p : Option Addr} {n c : Nat} {z : List Int} {f : List Nat} (h : Owns W B [.bool b, .slice p n c] [.bool b, .ints z] f) : f.Nodup := by
  obtain ⟨f1, f2, rfl, ⟨_, rfl⟩, f3, f4, rfl, ⟨p', n', c', e, _, rfl⟩, rfl⟩ := h
  simp only [List.nil_append, List.append_nil]
  exact nodup_opt p'
theorem strip_step {m s t : Nat} (ht : 0 < t) (hts : t <= s) (h : m % 10 ^ (s - t) = 0) (h10 : m / 10 ^ (s - t) % 10 = 0) : m % 10 ^ (s - (t - 1)) = 0 /\ m / 10 ^ (s - (t - 1)) = m / 10 ^ (s - t) / 10 := by
  have e : s - (t - 1) = (s - t) + 1 := by omega
  rw [e, Nat.pow_succ]
  refine ⟨?_, (Nat.div_div_eq_div_mul _ _ _).symm⟩
  rw [Nat.mod_mul, h, h10]; simp
theorem strip_stop {m s t : Nat} (hts : t <= s) (h10 : m / 10 ^ (s - t) % 10 ≠ 0) : ∀ u, u < t -> m % 10 ^ (s - u) ≠ 0 := by
  intro u hu h0
  have h1 : 10 ^ ((s - t) + 1) ∣ 10 ^ (s - u) := Nat.pow_dvd_pow 10 (by omega)
  have h2 : m % 10 ^ ((s - t) + 1) = 0 := Nat.mod_eq_zero_of_dvd (Nat.dvd_trans h1 (Nat.dvd_of_mod_eq_zero h0))
  rw [Nat.pow_succ, Nat.mod_mul] at h2
  have h3 : 0 < 10 ^ (s - t) := Nat.pos_of_ne_zero (by simp)
  have h4 : 10 ^ (s - t) * (m / 10 ^ (s - t) % 10) = 0 := by omega
  rcases Nat.mul_eq_zero.1 h4 with h5 | h5
  · omega
  · exact h10 h5
end Go.Proofs.YtgbknjdjbahdkaaGreatDoor
namespace Go.Proofs.YtgbknjdjbahdkaaGreatDoor
open Go Go.Proofs.YtgbknjdjbahdkaaGreatDoor.Sx
theorem impl_lowest_o {w : World} {B : Nat} {b : Bool} {p : Option Addr} {n c : Nat} {m s : Nat} {f : List Nat} (h : Owns w B [.bool b, .slice p n c] [.bool b, .ints (digs m)] f) (hB : B <= w.heap.size) (hb : b = true -> m ≠ 0) (hm : (digs m).length <= 6) (hs : s <= 1000) :
    Ret P n_impl_lowest [.agg ⟨[.bool b, .slice p n c]⟩, .int .i64 s] w fun v w' => ∃ vs f, v = .agg ⟨vs⟩ /\ Owns w' B vs (dsn b (lowM m s) (lowS m s)) f /\ f.Nodup /\ Ext w w' := by
  refine impl_lowest_ret ?_
  unfold impl_lowest
  intro r w1 hn1 r1 w2 hn2
  have e1 := hn1.r_eq; have e2 := hn2.r_eq; have s1 := hn1.size; have s2 := hn2.size
  have X := hn1.ext.trans hn2.ext
  have q0 := hn1.blk.ext hn2.ext; have q1 := hn2.blk
  have hfl := h.lt
  -- the end
  have fin : ∀ (W : World) (t : Nat) (pt : Option Addr) (nt ct : Nat) (ft : List Nat), Ext w W -> Blk W r T_impl_Signed [.bool b, .slice pt nt ct] -> Blk W r1 T_impl_Dec [.bool false, .slice none 0 0, .int .i64 0] -> Owns W B [.bool b, .slice pt nt ct] [.bool b, .ints (digs (m / 10 ^ (s - t)))] ft -> (∀ q ∈ ft, q ≠ r1) -> ft.Nodup -> lowS m s = t ->
      impl_lowest_j0 r r1 (t : Int) W fun v w' => ∃ vs f, v = .agg ⟨vs⟩ /\ Owns w' B vs (dsn b (lowM m s) (lowS m s)) f /\ f.Nodup /\ Ext w w' := by
    intro W t pt nt ct ft hX hr hr1 ho hft hnd ht
    unfold impl_lowest_j0
    obtain ⟨W', st, hb', cg, sz⟩ := hr1.storeA0 (P := P) (t := T_impl_Dec) (xs := [.bool b, .slice pt nt ct, .int .i64 (t : Int)]) (by kernel_rfl) rfl (by simp [Value.oneCell'])
    refine ⟨_, _, _, _, hr.loadA0 (by kernel_rfl), W', st, _, _, _, _, _, hb'.loadA0 (by kernel_rfl), _, ft, rfl, ?_, hnd, hX.chg cg (by simp; omega)⟩
    have h1 := (ho.chg cg (fun q hq => by have := hft q hq; simpa using this))
    have h2 := Owns.append h1 (Owns.int W' B (t : Int))
    rw [List.append_nil] at h2
    unfold lowM
    rw [ht]
    exact h2
  refine ⟨fun sc W => ∃ (t : Nat) (pt : Option Addr) (nt ct : Nat) (ft : List Nat), sc = t /\ t <= s /\ m % 10 ^ (s - t) = 0 /\ (b = true -> m / 10 ^ (s - t) ≠ 0) /\ Ext w W /\ Blk W r T_impl_Signed [.bool b, .slice pt nt ct] /\ Blk W r1 T_impl_Dec [.bool false, .slice none 0 0, .int .i64 0] /\ Owns W B [.bool b, .slice pt nt ct] [.bool b, .ints (digs (m / 10 ^ (s - t)))] ft /\ (∀ q ∈ ft, q ≠ r1 /\ q ≠ r) /\ ft.Nodup,
    fun sc _ => sc.toNat, ⟨s, p, n, c, f, rfl, Nat.le_refl _, by rw [Nat.sub_self, Nat.pow_zero, Nat.mod_one], by rw [Nat.sub_self, Nat.pow_zero, Nat.div_one]; exact hb, X, q0, q1, by rw [Nat.sub_self, Nat.pow_zero, Nat.div_one]; exact h.ext X, fun q hq => by have := hfl q hq; omega, owns_nd2 h⟩, ?_⟩
  rintro junk W sc ⟨t, pt, nt, ct, ft, rfl, hts, hmod, hbt, hX, hr, hr1, ho, hft, hnd⟩
  obtain ⟨x, hx⟩ : ∃ x, m / 10 ^ (s - t) = x := ⟨_, rfl⟩
  rw [hx] at hbt ho
  have hor := ho.reps
  have hml : (digs x).length <= 6 := by rw [<- hx]; exact Nat.le_trans (digs_mono_len (Nat.div_le_self _ _)) hm
  refine ifD (fun hpos => ?_) (fun hz => ?_)
  · have hi : IntsR W pt nt ct (digs x) := by
      obtain ⟨_, ⟨p', n', c', e, hi⟩, _⟩ := hor
      cases e; exact hi
    have hil := hi.1
    refine ⟨_, _, _, hr.loadAt 1 (by rw [addr_add]) (by kernel_rfl) rfl, ?_⟩
    refine Ret.at (impl_natSmall_c hi (digs_limbs _) (by omega) (by omega)) ?_
    rintro v W1 ⟨pq, nq, cq, hv, oq, y1⟩
    subst hv
    rw [val_digs] at oq ⊢
    have hq : (((x : Nat) : Int) / 10).toNat = x / 10 := by omega
    rw [hq] at oq
    refine ⟨_, _, _, _, rfl, ifD (fun hrest => ?_) (fun hrest => ?_)⟩
    · refine fin W1 t pt nt ct ft (hX.trans y1) (hr.ext y1) (hr1.ext y1) (by rw [hx]; exact ho.ext y1) (fun q hq => (hft q hq).1) hnd ?_
      exact lowS_eq hts hmod (strip_stop hts (by rw [hx]; omega))
    · obtain ⟨st1, st2⟩ := strip_step (by omega) hts hmod (by rw [hx]; omega)
      refine ⟨_, (hr.ext y1).loadAt 0 (by rw [addr_add]) (by kernel_rfl) rfl, ?_⟩
      have oqi := oq.ints
      refine Ret.at (impl_signed_c (neg := b) oqi.1) ?_
      rintro v W2 ⟨hv, y2⟩
      subst hv
      have hbb : (b && !(digs (x / 10)).isEmpty) = b := by
        cases hb1 : b with
        | false => rfl
        | true =>
          have h1 := hbt hb1
          rw [isEmpty_digs, decide_eq_false (by omega)]; rfl
      rw [hbb]
      obtain ⟨W3, st3, hb3, cg3, sz3⟩ := ((hr.ext y1).ext y2).storeA0 (P := P) (t := T_impl_Signed) (xs := [.bool b, .slice pq nq cq]) (by kernel_rfl) rfl (by simp [Value.oneCell'])
      have l0 := hX.le; have l1 := y1.le; have l2 := y2.le
      have lr := hr.lt; have lr1 := hr1.lt
      have oq2 : Owns W2 W.heap.size [.bool b, .slice pq nq cq] [.bool b, .ints (digs (x / 10))] (pq.map (·.block)).toList := Owns.int2 (oq.ext y2)
      have oq2l := oq2.lt
      have ho3 : Owns W3 B [.bool b, .slice pq nq cq] [.bool b, .ints (digs (x / 10))] (pq.map (·.block)).toList :=
        (oq2.mono (B' := B) (by omega)).chg cg3 (fun q hq => by have := oq2l q hq; simp; omega)
      refine ⟨_, _, _, _, rfl, W3, st3, exW ⟨by omega, by omega⟩ ⟨⟨t - 1, pq, nq, cq, _, by omega, by omega, st1, by rw [st2, hx]; intro h1; have := hbt h1; omega, ((hX.trans y1).trans y2).chg cg3 (by simp; omega), hb3, ((hr1.ext y1).ext y2).chg cg3 (by simp; omega), by rw [st2, hx]; exact ho3, fun q hq => by have := oq2l q hq; omega, nodup_opt pq⟩, ?_⟩⟩
      show ((t : Int) - 1).toNat < (t : Int).toNat
      omega
  · have h0 : t = 0 := by omega
    exact fin W t pt nt ct ft hX hr hr1 (by rw [hx]; exact ho) (fun q hq => (hft q hq).1) hnd (lowS_eq hts hmod (fun u hu => by omega))
theorem impl_TextPercent_o {w : World} (s : ByteArray) (hs : s.size <= 1048576) (hp : TabP w) : Ret P n_impl_TextPercent [.string s] w fun v w' => ∃ vs f, v = .tuple #[.agg ⟨vs⟩, .bool (tpOk s)] /\ Owns w' w.heap.size vs (tpR s) f /\ f.Nodup /\ Ext w w' := by
  obtain ⟨l, hl⟩ : ∃ l, s.data.toList = l := ⟨_, rfl⟩
  have hsl : s.size = l.length := by rw [ba_size, hl]
  refine impl_TextPercent_ret ?_
  unfold impl_TextPercent
  intro r w1 hn1
  have e1 := hn1.r_eq; have z1 := hn1.size
  have zero : ∀ W, Ext w1 W -> tpOk s = false -> ∃ W', Stores P T_impl_Dec ⟨r, 0, none⟩ (.agg #[.bool false, .slice none 0 0, .int .i64 0]) W W' /\ ∃ (x0 : Bool) (x1p : Option Addr) (x1n x1c : Nat) (x2 : Int), Loads P T_impl_Dec ⟨r, 0, none⟩ (.agg #[.bool x0, .slice x1p x1n x1c, .int .i64 x2]) W' /\
      ∃ vs f, Value.tuple #[.agg #[.bool x0, .slice x1p x1n x1c, .int .i64 x2], .bool false] = .tuple #[.agg ⟨vs⟩, .bool (tpOk s)] /\ Owns W' w.heap.size vs (tpR s) f /\ f.Nodup /\ Ext w W' := by
    intro W hW hno
    obtain ⟨W', st, hb', cg, sz⟩ := (hn1.blk.ext hW).storeA0 (P := P) (t := T_impl_Dec) (xs := [.bool false, .slice none 0 0, .int .i64 0]) (by kernel_rfl) rfl (by simp [Value.oneCell'])
    unfold tpR
    rw [hno]
    exact ⟨W', st, _, _, _, _, _, hb'.loadA0 (by kernel_rfl), _, [], rfl, own_dec0 _ _, List.nodup_nil, (hn1.ext.trans hW).chg cg (by simp; omega)⟩
  have main : l.getLast? = some 37 -> impl_TextPercent_j0 s r w1 fun v w' => ∃ vs f, v = .tuple #[.agg ⟨vs⟩, .bool (tpOk s)] /\ Owns w' w.heap.size vs (tpR s) f /\ f.Nodup /\ Ext w w' := by
    intro hlast
    obtain ⟨h0, hsb⟩ := body_size (s := s) (by rw [hl]; exact hlast)
    unfold impl_TextPercent_j0
    refine exW ⟨by omega, by omega⟩ ⟨⟨by omega, by omega⟩, ?_⟩
    have he : (((s.size : Nat) : Int) - 1).toNat = s.size - 1 := by omega
    rw [he]
    have hbs : (bodyT s).size <= s.size := by
      have := congrArg ByteArray.size hsb
      rw [ByteArray.size_append] at this
      have h1 : (S [37]).size = 1 := rfl
      omega
    refine Ret.at (impl_TextDec_o (bodyT s) (by omega) (hp.ext hn1.ext)) ?_
    rintro v w2 ⟨vs, f, hv, ho, hnd, y2⟩
    subst hv
    have hcd : (if tdOk (bodyT s) then cand (bodyT s).data.toList else zeroDec).map D0.code = [.bool, .ints, .int] := by split <;> rfl
    obtain ⟨d0, dp, dn, dc, dz, dt, rfl, hdd, hdi⟩ := open_Dec ho.reps hcd
    refine ⟨_, _, _, _, _, _, rfl, ?_⟩
    intro r1 w3 hn3
    have e3 := hn3.r_eq
    obtain ⟨w4, st4, hb4, y4⟩ := hn3.fill (P := P) (t := T_impl_Dec) (xs := [.bool d0, .slice dp dn dc, .int .i64 dt]) (by simp [Value.oneCell']) (by kernel_rfl) rfl
    have Y4 := y2.trans y4
    have l2 := y2.le; have l4 := y4.le
    refine ⟨w4, st4, ifN (fun hno => zero w4 Y4 (by unfold tpOk; rw [hno]; simp)) (fun hyes => ?_)⟩
    rw [hyes, if_pos rfl] at ho hdd
    obtain ⟨b, m, t, hc, hb, hm, ht, hT⟩ := cand_parts hyes
    rw [hc] at ho hdd
    unfold dsn at hdd
    simp only [List.cons.injEq, D0.bool.injEq, D0.ints.injEq, D0.int.injEq, and_true] at hdd
    obtain ⟨rfl, rfl, rfl⟩ := hdd
    refine ⟨_, _, _, _, hb4.loadAAt 0 [.bool b, .slice dp dn dc] (by rw [addr_add]) (by kernel_rfl) rfl, _, hb4.loadAt 2 (by rw [addr_add]) (by kernel_rfl) rfl, exW ⟨by omega, by omega⟩ ?_⟩
    have e22 : ((t : Int) + 2) = ((t + 2 : Nat) : Int) := by omega
    rw [e22]
    have ho4 : Owns w4 w1.heap.size [.bool b, .slice dp dn dc] [.bool b, .ints (digs m)] f := by
      obtain ⟨f1, f2, hf, h1, f3, f4, hf2, h2, f5, f6, hf3, h3, h4⟩ := ho.ext y4
      refine ⟨f1, f3, ?_, h1, f3, [], by simp, h2, rfl⟩
      have h5 : f5 = [] := h3.2
      have h6 : f6 = [] := h4
      rw [hf, hf2, hf3, h5, h6]; simp
    refine Ret.at (impl_lowest_o (s := t + 2) ho4 (by omega) hb hm (by omega)) ?_
    rintro v w5 ⟨vs5, f5, hv, o5, nd5, y5⟩
    subst hv
    obtain ⟨g0, gp, gn, gc, gz, gt, rfl, hgd, hgi⟩ := open_Dec o5.reps rfl
    refine ⟨_, _, _, _, _, rfl, ?_⟩
    intro r2 w6 hn6
    have e6 := hn6.r_eq
    obtain ⟨w7, st7, hb7, y7⟩ := hn6.fill (P := P) (t := T_impl_Dec) (xs := [.bool g0, .slice gp gn gc, .int .i64 gt]) (by simp [Value.oneCell']) (by kernel_rfl) rfl
    have Y7 := (Y4.trans y5).trans y7
    have X7 := hn1.ext.trans Y7
    have l5 := y5.le; have l7 := y7.le
    refine ⟨w7, st7, _, _, _, _, _, hb7.loadA0 (by kernel_rfl), ?_⟩
    refine Ret.at (impl_Percent_c (o5.reps.ext y7) rfl (hp.ext X7)) ?_
    rintro v w8 ⟨hv, y8⟩
    subst hv
    have Y8 := Y7.trans y8
    have X8 := hn1.ext.trans Y8
    have hlow : lowD (cand (bodyT s).data.toList) = dsn b (lowM m (t + 2)) (lowS m (t + 2)) := by rw [hc, lowD_dsn]
    have htp : tpOk s = decide (percentT (dsn b (lowM m (t + 2)) (lowS m (t + 2))) = s) := by
      unfold tpOk
      rw [hl, hlast, hyes, hlow]; simp
    refine ⟨_, rfl, ifD (fun hne => zero w8 Y8 (by rw [htp]; exact decide_eq_false hne)) (fun heq => ?_)⟩
    have heq : percentT (dsn b (lowM m (t + 2)) (lowS m (t + 2))) = s := by simpa using heq
    have hyes2 : tpOk s = true := by rw [htp]; exact decide_eq_true heq
    have o5l := o5.lt
    obtain ⟨w9, st9, hb9, cg9, sz9⟩ := (hn1.blk.ext Y8).storeA0 (P := P) (t := T_impl_Dec) (xs := [.bool g0, .slice gp gn gc, .int .i64 gt]) (by kernel_rfl) rfl (by simp [Value.oneCell'])
    refine ⟨_, _, _, _, _, (hb7.ext y8).loadA0 (by kernel_rfl), w9, st9, _, _, _, _, _, hb9.loadA0 (by kernel_rfl), _, f5, by rw [hyes2], ?_, nd5, X8.chg cg9 (by simp; omega)⟩
    unfold tpR
    rw [hyes2, if_pos rfl, hlow]
    exact (((o5.ext y7).ext y8).chg cg9 (fun q hq => by have := o5l q hq; simp; omega)).mono (by omega)
  refine ifD (fun hemp => ifT (zero w1 (Ext.refl _) ?_)) (fun hne => ?_)
  · unfold tpOk
    rw [hemp]; rfl
  · have h0 : 0 < l.length := by
      cases l with
      | nil => exact absurd (ba_ext (by rw [hl])) hne
      | cons _ _ => exact Nat.succ_pos _
    have hix : ((s.size : Nat) : Int) - 1 = ((l.length - 1 : Nat) : Int) := by omega
    refine exW ⟨by omega, by omega⟩ ⟨by omega, l[l.length - 1]'(by omega), by subst hl; rw [hix]; exact ba_get (by omega), ifD (fun h37 => zero w1 (Ext.refl _) ?_) (fun h37 => main ?_)⟩
    · unfold tpOk
      rw [hl, List.getLast?_eq_getElem?, List.getElem?_eq_getElem (by omega)]
      have : l[l.length - 1]'(by omega) ≠ 37 := fun e => h37 (by rw [e]; rfl)
      simp [this]
    · rw [List.getLast?_eq_getElem?, List.getElem?_eq_getElem (by omega)]
      have h37' : (((l[l.length - 1]'(by omega)).toNat : Nat) : Int) = 37 := by simpa using h37
      exact congrArg some (UInt8.toNat_inj.1 (by show _ = 37; omega))
theorem spec_DecAt_bad {w : World} {xs : List Value} {dx : List D0} (h : Reps w xs dx) (hc : dx.map D0.code = [.bool, .ints, .int]) (hbad : decOk dx = false) (sc : Int) :
    Ret P n_spec_DecAt [.agg ⟨xs⟩, .int .i64 sc] w fun v w' => v = .tuple #[.agg #[.bool false, .slice none 0 0, .int .i64 0], .bool false] /\ Ext w w' := by
  have hr := h
  obtain ⟨a0, ap, an, ac, az, a2, rfl, rfl, ha⟩ := open_Dec h hc
  refine spec_DecAt_ret ?_
  unfold spec_DecAt
  intro r w1 hn1 r1 w2 hn2
  have e1 := hn1.r_eq; have e2 := hn2.r_eq; have s1 := hn1.size
  have X := hn1.ext.trans hn2.ext
  refine ⟨_, _, _, _, _, (hn1.blk.ext hn2.ext).loadA0 (by kernel_rfl), ?_⟩
  refine Ret.at (spec_DecOk_c (hr.ext X) rfl) ?_
  rintro v w3 ⟨hv, y3⟩
  subst hv
  rw [hbad]
  obtain ⟨w4, st4, hb4, cg4, sz4⟩ := (hn2.blk.ext y3).storeA0 (P := P) (t := T_impl_Dec) (xs := [.bool false, .slice none 0 0, .int .i64 0]) (by kernel_rfl) rfl (by simp [Value.oneCell'])
  refine ⟨_, rfl, ifN (fun _ => ?_) (fun h => by cases h)⟩
  (repeat refine ifT ?_)
  exact ⟨w4, st4, _, _, _, _, _, hb4.loadA0 (by kernel_rfl), rfl, (X.trans y3).chg cg4 (by simp; omega)⟩
theorem spec_DecLow_bad {w : World} {xs : List Value} {dx : List D0} (h : Reps w xs dx) (hc : dx.map D0.code = [.bool, .ints, .int]) (hbad : decOk dx = false) :
    Ret P n_spec_DecLow [.agg ⟨xs⟩] w fun v w' => v = .agg #[.bool false, .slice none 0 0, .int .i64 0] /\ Ext w w' := by
  have hr := h
  obtain ⟨a0, ap, an, ac, az, a2, rfl, rfl, ha⟩ := open_Dec h hc
  refine spec_DecLow_ret ?_
  unfold spec_DecLow
  intro r w1 hn1 r1 w2 hn2
  have e1 := hn1.r_eq; have e2 := hn2.r_eq; have s1 := hn1.size
  have X := hn1.ext.trans hn2.ext
  refine ⟨fun sc W => 0 <= sc /\ sc <= 31 /\ Ext w2 W, fun sc _ => (31 - sc).toNat, ⟨by omega, by omega, Ext.refl _⟩, ?_⟩
  rintro junk W sc ⟨h0, h31, hW⟩
  refine ifD (fun hle => ?_) (fun hgt => ?_)
  · refine ⟨_, _, _, _, _, ((hn1.blk.ext hn2.ext).ext hW).loadA0 (by kernel_rfl), ?_⟩
    refine Ret.at (spec_DecAt_bad (hr.ext (X.trans hW)) rfl hbad sc) ?_
    rintro v w3 ⟨hv, y3⟩
    subst hv
    refine ⟨_, _, _, _, _, _, rfl, ?_⟩
    intro r2 w4 hn4
    obtain ⟨w5, st5, hb5, y5⟩ := hn4.fill (P := P) (t := T_impl_Dec) (xs := [.bool false, .slice none 0 0, .int .i64 0]) (by simp [Value.oneCell']) (by kernel_rfl) rfl
    refine ⟨w5, st5, ifF (exW ⟨by omega, by omega⟩ ⟨⟨by omega, by omega, (hW.trans y3).trans y5⟩, ?_⟩)⟩
    show (31 - (sc + 1)).toNat < (31 - sc).toNat
    omega
  · obtain ⟨w4, st4, hb4, cg4, sz4⟩ := (hn2.blk.ext hW).storeA0 (P := P) (t := T_impl_Dec) (xs := [.bool false, .slice none 0 0, .int .i64 0]) (by kernel_rfl) rfl (by simp [Value.oneCell'])
    exact ⟨w4, st4, _, _, _, _, _, hb4.loadA0 (by kernel_rfl), rfl, (X.trans hW).chg cg4 (by simp; omega)⟩
theorem spec_TextPercent_o {w : World} (s : ByteArray) (hs : s.size <= 1048576) : Ret P n_spec_TextPercent [.string s] w fun v w' => ∃ vs f, v = .tuple #[.agg ⟨vs⟩, .bool (tpOk s)] /\ Owns w' w.heap.size vs (tpR s) f /\ f.Nodup /\ Ext w w' := by
  obtain ⟨l, hl⟩ : ∃ l, s.data.toList = l := ⟨_, rfl⟩
  have hsl : s.size = l.length := by rw [ba_size, hl]
  refine spec_TextPercent_ret ?_
  unfold spec_TextPercent
  intro r w1 hn1
  have e1 := hn1.r_eq; have z1 := hn1.size
  have zero : ∀ W, Ext w1 W -> tpOk s = false -> ∃ W', Stores P T_impl_Dec ⟨r, 0, none⟩ (.agg #[.bool false, .slice none 0 0, .int .i64 0]) W W' /\ ∃ (x0 : Bool) (x1p : Option Addr) (x1n x1c : Nat) (x2 : Int), Loads P T_impl_Dec ⟨r, 0, none⟩ (.agg #[.bool x0, .slice x1p x1n x1c, .int .i64 x2]) W' /\
      ∃ vs f, Value.tuple #[.agg #[.bool x0, .slice x1p x1n x1c, .int .i64 x2], .bool false] = .tuple #[.agg ⟨vs⟩, .bool (tpOk s)] /\ Owns W' w.heap.size vs (tpR s) f /\ f.Nodup /\ Ext w W' := by
    intro W hW hno
    obtain ⟨W', st, hb', cg, sz⟩ := (hn1.blk.ext hW).storeA0 (P := P) (t := T_impl_Dec) (xs := [.bool false, .slice none 0 0, .int .i64 0]) (by kernel_rfl) rfl (by simp [Value.oneCell'])
    unfold tpR
    rw [hno]
    exact ⟨W', st, _, _, _, _, _, hb'.loadA0 (by kernel_rfl), _, [], rfl, own_dec0 W' _, List.nodup_nil, (hn1.ext.trans hW).chg cg (by simp; omega)⟩
  have main : l.getLast? = some 37 -> spec_TextPercent_j0 s r w1 fun v w' => ∃ vs f, v = .tuple #[.agg ⟨vs⟩, .bool (tpOk s)] /\ Owns w' w.heap.size vs (tpR s) f /\ f.Nodup /\ Ext w w' := by
    intro hlast
    have hlast' : s.data.toList.getLast? = some 37 := by rw [hl]; exact hlast
    obtain ⟨h0, hsb⟩ := body_size hlast'
    unfold spec_TextPercent_j0
    refine exW ⟨by omega, by omega⟩ ⟨⟨by omega, by omega⟩, ?_⟩
    have he : (((s.size : Nat) : Int) - 1).toNat = s.size - 1 := by omega
    rw [he]
    have hbs : (bodyT s).size <= s.size := by
      have := congrArg ByteArray.size hsb
      rw [ByteArray.size_append] at this
      have h1 : (S [37]).size = 1 := rfl
      omega
    refine Ret.at (spec_TextDec_c (bodyT s) (by omega)) ?_
    rintro v w2 ⟨vs, hv, ho, y2⟩
    subst hv
    have hcd : (if tdOk (bodyT s) then cand (bodyT s).data.toList else zeroDec).map D0.code = [.bool, .ints, .int] := by split <;> rfl
    have ho2 := ho
    obtain ⟨d0, dp, dn, dc, dz, dt, rfl, hdd, hdi⟩ := open_Dec ho hcd
    refine ⟨_, _, _, _, _, _, rfl, ?_⟩
    intro r1 w3 hn3
    have e3 := hn3.r_eq
    obtain ⟨w4, st4, hb4, y4⟩ := hn3.fill (P := P) (t := T_impl_Dec) (xs := [.bool d0, .slice dp dn dc, .int .i64 dt]) (by simp [Value.oneCell']) (by kernel_rfl) rfl
    have Y4 := y2.trans y4
    have l2 := y2.le; have l4 := y4.le
    refine ⟨w4, st4, ifN (fun hno => zero w4 Y4 (by unfold tpOk; rw [hno]; simp)) (fun hyes => ?_)⟩
    rw [hyes, if_pos rfl] at ho2 hdd
    obtain ⟨b, m, t, hc, hb, hm, ht, hT⟩ := cand_parts hyes
    rw [hc] at ho2 hdd
    unfold dsn at hdd
    simp only [List.cons.injEq, D0.bool.injEq, D0.ints.injEq, D0.int.injEq, and_true] at hdd
    obtain ⟨rfl, rfl, rfl⟩ := hdd
    refine ⟨_, _, _, _, hb4.loadAAt 0 [.bool b, .slice dp dn dc] (by rw [addr_add]) (by kernel_rfl) rfl, _, hb4.loadAt 2 (by rw [addr_add]) (by kernel_rfl) rfl, exW ⟨by omega, by omega⟩ ?_⟩
    have e22 : ((t : Int) + 2) = ((t + 2 : Nat) : Int) := by omega
    rw [e22]
    have hrep : Reps w4 [.bool b, .slice dp dn dc, .int .i64 ((t + 2 : Nat) : Int)] (dsn b m ((t + 2 : Nat) : Int)) := ⟨rfl, ⟨_, _, _, rfl, hdi.ext y4⟩, rfl, trivial⟩
    have hlow : lowD (cand (bodyT s).data.toList) = dsn b (lowM m (t + 2)) (lowS m (t + 2)) := by rw [hc, lowD_dsn]
    have htp : tpOk s = decide (percentT (dsn b (lowM m (t + 2)) (lowS m (t + 2))) = s) := by
      unfold tpOk
      rw [hlast', hyes, hlow]; simp
    -- whatever comes of DecLow
    have rest : ∀ (w5 : World) (d : List D0) (vs5 : List Value) (f5 : List Nat), Ext w4 w5 -> Owns w5 w4.heap.size vs5 d f5 -> f5.Nodup -> d.map D0.code = [.bool, .ints, .int] -> (percentT d = s -> d = dsn b (lowM m (t + 2)) (lowS m (t + 2))) -> (percentT (dsn b (lowM m (t + 2)) (lowS m (t + 2))) = s -> percentT d = s) ->
        ∃ (x0 : Bool) (x1p : Option Addr) (x1n x1c : Nat) (x2 : Int), Ending.returned (.agg ⟨vs5⟩) = .returned (.agg #[.bool x0, .slice x1p x1n x1c, .int .i64 x2]) /\ ∀ (r2 : Nat) (w6 : World), New w5 (.cells ⟨[.bool false, .slice none 0 0, .int .i64 0]⟩ T_impl_Dec (0, 0)) r2 w6 ->
          ∃ w7, Stores P T_impl_Dec ⟨r2, 0, none⟩ (.agg #[.bool x0, .slice x1p x1n x1c, .int .i64 x2]) w6 w7 /\ ∃ (y0 : Bool) (y1p : Option Addr) (y1n y1c : Nat) (y2 : Int), Loads P T_impl_Dec ⟨r2, 0, none⟩ (.agg #[.bool y0, .slice y1p y1n y1c, .int .i64 y2]) w7 /\ Calls P n_spec_Percent ⟨[.agg #[.bool y0, .slice y1p y1n y1c, .int .i64 y2]]⟩ w7 fun e w8 =>
          ∃ (tx : ByteArray), e = .returned (.string tx) /\
          ((decide (tx ≠ s) = true -> ∃ w9, Stores P T_impl_Dec ⟨r, 0, none⟩ (.agg #[.bool false, .slice none 0 0, .int .i64 0]) w8 w9 /\ ∃ (x0 : Bool) (x1p : Option Addr) (x1n x1c : Nat) (x2 : Int), Loads P T_impl_Dec ⟨r, 0, none⟩ (.agg #[.bool x0, .slice x1p x1n x1c, .int .i64 x2]) w9 /\
              ∃ vs f, Value.tuple #[.agg #[.bool x0, .slice x1p x1n x1c, .int .i64 x2], .bool false] = .tuple #[.agg ⟨vs⟩, .bool (tpOk s)] /\ Owns w9 w.heap.size vs (tpR s) f /\ f.Nodup /\ Ext w w9) /\
          (decide (tx ≠ s) = false -> ∃ (z0 : Bool) (z1p : Option Addr) (z1n z1c : Nat) (z2 : Int), Loads P T_impl_Dec ⟨r2, 0, none⟩ (.agg #[.bool z0, .slice z1p z1n z1c, .int .i64 z2]) w8 /\ ∃ w9, Stores P T_impl_Dec ⟨r, 0, none⟩ (.agg #[.bool z0, .slice z1p z1n z1c, .int .i64 z2]) w8 w9 /\
              ∃ (x0 : Bool) (x1p : Option Addr) (x1n x1c : Nat) (x2 : Int), Loads P T_impl_Dec ⟨r, 0, none⟩ (.agg #[.bool x0, .slice x1p x1n x1c, .int .i64 x2]) w9 /\ ∃ vs f, Value.tuple #[.agg #[.bool x0, .slice x1p x1n x1c, .int .i64 x2], .bool true] = .tuple #[.agg ⟨vs⟩, .bool (tpOk s)] /\ Owns w9 w.heap.size vs (tpR s) f /\ f.Nodup /\ Ext w w9)) := by
      intro w5 d vs5 f5 y5 o5 nd5 hcd5 hi1 hi2
      have hd := o5.reps
      have hd0 := o5.reps
      have o5l := o5.lt
      obtain ⟨g0, gp, gn, gc, gz, gt, rfl, hgd, hgi⟩ := open_Dec hd hcd5
      refine ⟨_, _, _, _, _, rfl, ?_⟩
      intro r2 w6 hn6
      have e6 := hn6.r_eq
      obtain ⟨w7, st7, hb7, y7⟩ := hn6.fill (P := P) (t := T_impl_Dec) (xs := [.bool g0, .slice gp gn gc, .int .i64 gt]) (by simp [Value.oneCell']) (by kernel_rfl) rfl
      have Y7 := (Y4.trans y5).trans y7
      have X7 := hn1.ext.trans Y7
      refine ⟨w7, st7, _, _, _, _, _, hb7.loadA0 (by kernel_rfl), ?_⟩
      refine Ret.at (spec_Percent_c (hd0.ext y7) hcd5) ?_
      rintro v w8 ⟨hv, y8⟩
      subst hv
      have Y8 := Y7.trans y8
      have X8 := hn1.ext.trans Y8
      refine ⟨_, rfl, ifD (fun hne => zero w8 Y8 (by rw [htp]; exact decide_eq_false (fun e => hne (hi2 e)))) (fun heq => ?_)⟩
      have heq : percentT d = s := by simpa using heq
      have hdd := hi1 heq
      have hyes2 : tpOk s = true := by rw [htp, <- hdd]; exact decide_eq_true heq
      obtain ⟨w9, st9, hb9, cg9, sz9⟩ := (hn1.blk.ext Y8).storeA0 (P := P) (t := T_impl_Dec) (xs := [.bool g0, .slice gp gn gc, .int .i64 gt]) (by kernel_rfl) rfl (by simp [Value.oneCell'])
      refine ⟨_, _, _, _, _, (hb7.ext y8).loadA0 (by kernel_rfl), w9, st9, _, _, _, _, _, hb9.loadA0 (by kernel_rfl), _, f5, by rw [hyes2], ?_, nd5, X8.chg cg9 (by simp; omega)⟩
      unfold tpR
      rw [hyes2, if_pos rfl, hlow, <- hdd]
      exact (((o5.ext y7).ext y8).chg cg9 (fun q hq => by have := o5l q hq; simp; omega)).mono (by omega)
    by_cases hroom : t + 2 <= 30
    · refine Ret.at (spec_DecLow_o hrep hb hm hroom) ?_
      rintro v w5 ⟨vs5, f5, hv, o5, nd5, y5⟩
      subst hv
      exact rest w5 _ vs5 f5 y5 o5 nd5 rfl (fun _ => rfl) (fun h => h)
    · have hbad : decOk (dsn b m ((t + 2 : Nat) : Int)) = false := by
        cases hq : decOk (dsn b m ((t + 2 : Nat) : Int)) with
        | false => rfl
        | true => have := (decOk_parts hq).2.2.2.2.2; omega
      refine Ret.at (spec_DecLow_bad hrep rfl hbad) ?_
      rintro v w5 ⟨hv, y5⟩
      subst hv
      refine rest w5 zeroDec _ [] y5 (own_dec0 w5 _) List.nodup_nil rfl (fun h => ?_) (fun h => ?_)
      · exact absurd (pct_room hlast' hb hm ht hT zeroDec ⟨0, 0, .inl zeroDec_dsn⟩ h) hroom
      · refine absurd (pct_room hlast' hb hm ht hT _ ⟨lowM m (t + 2), lowS m (t + 2), ?_⟩ h) hroom
        cases b
        · exact .inl rfl
        · exact .inr rfl
  refine ifD (fun hemp => ifT (zero w1 (Ext.refl _) ?_)) (fun hne => ?_)
  · have h0 : l = [] := List.length_eq_zero_iff.1 (by omega)
    unfold tpOk
    rw [hl, h0]; rfl
  · have h0 : 0 < l.length := by omega
    have hix : ((s.size : Nat) : Int) - 1 = ((l.length - 1 : Nat) : Int) := by omega
    refine exW ⟨by omega, by omega⟩ ⟨by omega, l[l.length - 1]'(by omega), by subst hl; rw [hix]; exact ba_get (by omega), ifD (fun h37 => zero w1 (Ext.refl _) ?_) (fun h37 => main ?_)⟩
    · unfold tpOk
      rw [hl, List.getLast?_eq_getElem?, List.getElem?_eq_getElem (by omega)]
      have : l[l.length - 1]'(by omega) ≠ 37 := fun e => h37 (by rw [e]; rfl)
      simp [this]
    · rw [List.getLast?_eq_getElem?, List.getElem?_eq_getElem (by omega)]
      have h37' : (((l[l.length - 1]'(by omega)).toNat : Nat) : Int) = 37 := by simpa using h37
      exact congrArg some (UInt8.toNat_inj.1 (by show _ = 37; omega))
theorem tpR_code (s : ByteArray) : (tpR s).map D0.code = [.bool, .ints, .int] := by
  unfold tpR
  split
  · unfold lowD
    split <;> rfl
  · rfl
theorem tpR_cnt (s : ByteArray) : tcnts (tpR s) <= 1000000000 := by
  unfold tpR
  split
  · rename_i h
    unfold tpOk at h
    simp only [Bool.and_eq_true, decide_eq_true_eq] at h
    obtain ⟨b, m, t, hc, hb, hm, ht, hT⟩ := cand_parts h.2.1
    rw [hc, lowD_dsn]
    have h1 : (digs (lowM m (t + 2))).length <= (digs m).length := digs_mono_len (lowM_le m (t + 2))
    simp only [dsn, tcnts]
    omega
  · decide
theorem impl_TextPercent_c {w : World} (s : ByteArray) (hs : s.size <= 1048576) (hp : TabP w) : Ret P n_impl_TextPercent [.string s] w fun v w' => ∃ vs f, v = .tuple #[.agg ⟨vs⟩, .bool (tpOk s)] /\ Owns w' w.heap.size vs (tpR s) f /\ f.Nodup /\ (tpR s).map D0.code = [.bool, .ints, .int] /\ tcnts (tpR s) <= 1000000000 /\ Ext w w' :=
  (impl_TextPercent_o s hs hp).mono fun v w' ⟨vs, f, hv, ho, hn, hx⟩ => ⟨vs, f, hv, ho, hn, tpR_code s, tpR_cnt s, hx⟩
end Go.Proofs.YtgbknjdjbahdkaaGreatDoor
namespace Go.Proofs.YtgbknjdjbahdkaaGreatDoor
open Go Go.Proofs.YtgbknjdjbahdkaaGreatDoor.Sx
def stepFrom : List D0 -> Int
  | .int n :: _ => n
  | _ => 0
def stepOk (l : List (List D0)) (i : Nat) : Bool := decide (0 <= stepFrom (l.getD i []) /\ stepFrom (l.getD i []) <= 1000000000) && taxOk ((l.getD i []).drop 1) && !(decide (0 < i) && decide (stepFrom (l.getD i []) <= stepFrom (l.getD (i - 1) [])))
def stepsOk (l : List (List D0)) : Bool := decide (1 <= l.length /\ l.length <= 8) && decide (stepFrom (l.getD 0 []) = 0) && (List.range l.length).all (stepOk l)
theorem steps_no {l : List (List D0)} {i : Nat} (hi : i < l.length) (h : stepOk l i = false) : stepsOk l = false := by
  unfold stepsOk
  have : (List.range l.length).all (stepOk l) = false := by
    rw [Bool.eq_false_iff]
    intro ha
    rw [List.all_eq_true] at ha
    have := ha i (List.mem_range.2 hi)
    rw [h] at this; cases this
  rw [this, Bool.and_false]
theorem steps_yes {l : List (List D0)} (h1 : 1 <= l.length /\ l.length <= 8) (h2 : stepFrom (l.getD 0 []) = 0) (h : ∀ i < l.length, stepOk l i = true) : stepsOk l = true := by
  unfold stepsOk
  have : (List.range l.length).all (stepOk l) = true := by
    rw [List.all_eq_true]
    exact fun i hi => h i (List.mem_range.1 hi)
  rw [this, decide_eq_true h1, decide_eq_true h2]; rfl
theorem getD_lt {α : Type} {l : List α} {i : Nat} {d : α} (h : i < l.length) : l.getD i d = l[i] := by
  rw [List.getD_eq_getElem?_getD, List.getElem?_eq_getElem h]; rfl
theorem spec_StepsOk_c {w : World} {p : Option Addr} {n c : Nat} {l : List (List D0)} (h : RowsR w 4 p n c l) (hc : ∀ x ∈ l, x.map D0.code = [.int, .bool, .ints, .int]) :
    Ret P n_spec_StepsOk [.slice p n c] w fun v w' => v = .bool (stepsOk l) /\ Ext w w' := by
  have hz := h.1; have hcap := h.2.1; have hcm := h.2.2.1
  refine spec_StepsOk_ret ?_
  unfold spec_StepsOk
  refine Ret.at (spec_l01In_c _ _ _ w) ?_
  rintro v w1 ⟨hv, hw⟩
  subst hv; subst hw
  refine ⟨_, rfl, ifN (fun hno => ifT ⟨?_, Ext.refl _⟩) (fun hok => ?_)⟩
  · have hno := of_decide_eq_false hno
    unfold stepsOk
    rw [show decide (1 <= l.length /\ l.length <= 8) = false by simp; omega]
    rfl
  have hok := of_decide_eq_true hok
  have hlen : 1 <= l.length /\ l.length <= 8 := by omega
  obtain ⟨a, cs, hp, hk, hr, hl⟩ := h.at (P := P) (t := T_impl_Step) (by kernel_rfl) (i := 0) (by omega)
  obtain ⟨b, off, hpp, hs⟩ := h.2.2.2 (by omega)
  have first : ∀ i (hi : i < l.length), ∀ W, Ext w1 W -> Loads P T_int (((⟨b, off, none⟩ : Addr).add (i * 4)).add 0) (.int .i64 (stepFrom (l.getD i []))) W := by
    intro i hi W hW
    obtain ⟨cs, hk, hr, hsg⟩ := hs i _ (List.getElem?_eq_getElem hi)
    obtain ⟨a0, a1, a2p, a2n, a2c, a2z, a3, rfl, hd, _⟩ := open_Step hr (hc _ (List.getElem_mem hi))
    rw [getD_lt hi, hd]
    exact (hsg.ext hW).loadAt 0 (by simp [Addr.add]) (by kernel_rfl) rfl
  subst hpp
  refine ⟨⟨by omega, by omega⟩, _, by simpa using first 0 (by omega) w1 (Ext.refl _), ifD (fun hne => ⟨?_, Ext.refl _⟩) (fun he => ?_)⟩
  · unfold stepsOk
    rw [show decide (stepFrom (l.getD 0 []) = 0) = false by simpa using hne, Bool.and_false]
    rfl
  have he : stepFrom (l.getD 0 []) = 0 := by simpa using he
  unfold spec_StepsOk_j0
  refine ⟨fun i wr => ∃ j : Nat, i = j /\ j <= n /\ Ext w1 wr /\ ∀ i < j, stepOk l i = true, fun i _ => n - i.toNat, ⟨0, rfl, by omega, Ext.refl _, by simp⟩, ?_⟩
  intro junk wr i ⟨j, hij, hj, hx, hall⟩
  subst hij
  refine ifD (fun hlt => ?_) (fun hge => ⟨?_, hx⟩)
  · have hjn : j < n := by omega
    have hjl : j < l.length := by omega
    obtain ⟨a, cs, hp, hk, hr, hl⟩ := (h.ext hx).at (P := P) (t := T_impl_Step) (by kernel_rfl) hjn
    cases hp
    have hrr := hr; have hcode := hc _ (List.getElem_mem hjl)
    obtain ⟨a0, a1, a2p, a2n, a2c, a2z, a3, rfl, hd, ha⟩ := open_Step hr hcode
    have hgd : l.getD j [] = [.int a0, .bool a1, .ints a2z, .int a3] := by rw [getD_lt hjl, hd]
    refine ⟨⟨by omega, by omega⟩, _, _, _, _, _, _, by simpa using hl, ?_⟩
    intro r w2 hn2
    obtain ⟨w3, st, hb3, y3⟩ := hn2.fill (P := P) (t := T_impl_Step) hrr.cells1 (by kernel_rfl) rfl
    have D := Ext.drew w3
    have x3 := (hx.trans y3).trans D
    have hb4 := hb3.ext D
    refine ⟨w3, st, _, fun W hW => (hb4.ext hW).loadAt 0 rfl (by kernel_rfl) rfl, ?_⟩
    refine Ret.at (spec_l01In_c _ _ _ _) ?_
    rintro v w4 ⟨hv, hw⟩
    subst hv; subst hw
    refine ⟨_, rfl, ifN (fun hno => ifT (ifT ⟨?_, x3⟩)) (fun hin => ?_)⟩
    · rw [steps_no hjl]
      simp only [stepOk, hgd, stepFrom, hno, Bool.false_and]
    refine ⟨_, _, _, _, _, fun W hW => (hb4.ext hW).loadAAt 1 [.bool a1, .slice a2p a2n a2c, .int .i64 a3] rfl (by kernel_rfl) rfl, ?_⟩
    have hdec : Reps w3.drew [.bool a1, .slice a2p a2n a2c, .int .i64 a3] [.bool a1, .ints a2z, .int a3] := ⟨rfl, ⟨_, _, _, rfl, ha.ext (y3.trans D)⟩, rfl, trivial⟩
    refine Ret.at (spec_TaxRateOk_c hdec rfl) ?_
    rintro v w5 ⟨hv, y5⟩
    subst hv
    have x5 := x3.trans y5
    have next : ∀ W, Ext w1 W -> stepOk l j = true -> ∃ t48 : Int, t48 = IntKind.wrap .i64 ((j : Int) + 1) /\ (fun (i : Int) (wr : World) => ∃ j : Nat, i = j /\ j <= n /\ Ext w1 wr /\ ∀ i < j, stepOk l i = true) t48 W /\ (fun (i : Int) (_ : World) => n - i.toNat) t48 W < (fun (i : Int) (_ : World) => n - i.toNat) (j : Int) wr := by
      intro W hW hs
      refine exW ⟨by omega, by omega⟩ ⟨⟨j + 1, by omega, by omega, hW, fun i hi => ?_⟩, ?_⟩
      · rcases Nat.lt_or_ge i j with h | h
        · exact hall i h
        · have : i = j := by omega
          subst this; exact hs
      · show n - ((j : Int) + 1).toNat < n - (j : Int).toNat
        omega
    refine ⟨_, rfl, ifN (fun hno => ifT ⟨?_, x5⟩) (fun htax => ?_)⟩
    · rw [steps_no hjl]
      simp only [stepOk, hgd, stepFrom, List.drop_succ_cons, List.drop_zero, hno, Bool.and_false, Bool.false_and]
    refine ifD (fun hpos => ?_) (fun hzero => ifF (next _ x5 ?_))
    · refine exW ⟨by omega, by omega⟩ ⟨⟨by omega, by omega⟩, stepFrom (l.getD (j - 1) []), fun W hW => ?_, _, fun W hW => ((hb4.ext y5).ext hW).loadAt 0 rfl (by kernel_rfl) rfl, ifD (fun hle => ⟨?_, x5⟩) (fun hgt => next _ x5 ?_)⟩
      · have := first (j - 1) (by omega) W (x5.trans hW)
        rw [show ((j : Int) - 1).toNat = j - 1 by omega]
        exact this
      · rw [steps_no hjl]
        simp only [stepOk, hgd]
        rw [decide_eq_true (show stepFrom [.int a0, .bool a1, .ints a2z, .int a3] <= stepFrom (l.getD (j - 1) []) from hle), decide_eq_true (show 0 < j by omega)]
        simp
      · simp only [stepOk, hgd]
        rw [decide_eq_false (show ¬ stepFrom [.int a0, .bool a1, .ints a2z, .int a3] <= stepFrom (l.getD (j - 1) []) from hgt)]
        simp only [stepFrom, List.drop_succ_cons, List.drop_zero, htax, Bool.and_false, Bool.not_false, Bool.and_true]
        exact hin
    · have h0 : j = 0 := by omega
      subst h0
      simp only [stepOk, hgd, stepFrom, List.drop_succ_cons, List.drop_zero, htax, Nat.lt_irrefl, decide_false, Bool.false_and, Bool.not_false, Bool.and_true]
      exact hin
  · rw [steps_yes hlen he (fun i hi => hall i (by omega))]
theorem impl_StepsOk_c {w : World} {p : Option Addr} {n c : Nat} {l : List (List D0)} (h : RowsR w 4 p n c l) (hc : ∀ x ∈ l, x.map D0.code = [.int, .bool, .ints, .int]) :
    Ret P n_impl_StepsOk [.slice p n c] w fun v w' => v = .bool (stepsOk l) /\ Ext w w' := by
  have hz := h.1; have hcap := h.2.1; have hcm := h.2.2.1
  refine impl_StepsOk_ret ?_
  unfold impl_StepsOk
  have bad : ¬ (1 <= l.length /\ l.length <= 8) -> stepsOk l = false := fun hno => by
    unfold stepsOk
    rw [show decide (1 <= l.length /\ l.length <= 8) = false by simpa using hno]
    rfl
  refine ifD (fun hlt => ifT (ifT ⟨by rw [bad (by omega)], Ext.refl _⟩)) (fun hge1 => ifD (fun hgt => ifT ⟨by rw [bad (by omega)], Ext.refl _⟩) (fun hle8 => ?_))
  have hlen : 1 <= l.length /\ l.length <= 8 := by omega
  obtain ⟨b, off, hpp, hs⟩ := h.2.2.2 (by omega)
  have first : ∀ i (hi : i < l.length), ∀ W, Ext w W -> Loads P T_int (((⟨b, off, none⟩ : Addr).add (i * 4)).add 0) (.int .i64 (stepFrom (l.getD i []))) W := by
    intro i hi W hW
    obtain ⟨cs, hk, hr, hsg⟩ := hs i _ (List.getElem?_eq_getElem hi)
    obtain ⟨a0, a1, a2p, a2n, a2c, a2z, a3, rfl, hd, _⟩ := open_Step hr (hc _ (List.getElem_mem hi))
    rw [getD_lt hi, hd]
    exact (hsg.ext hW).loadAt 0 (by simp [Addr.add]) (by kernel_rfl) rfl
  subst hpp
  refine ⟨⟨by omega, by omega⟩, _, by simpa using first 0 (by omega) w (Ext.refl _), ifD (fun hne => ⟨?_, Ext.refl _⟩) (fun he => ?_)⟩
  · unfold stepsOk
    rw [show decide (stepFrom (l.getD 0 []) = 0) = false by simpa using hne, Bool.and_false]
    rfl
  have he : stepFrom (l.getD 0 []) = 0 := by simpa using he
  unfold impl_StepsOk_j0
  refine ⟨fun i wr => ∃ j : Nat, i = j /\ j <= n /\ Ext w wr /\ ∀ i < j, stepOk l i = true, fun i _ => n - i.toNat, ⟨0, rfl, by omega, Ext.refl _, by simp⟩, ?_⟩
  intro junk wr i ⟨j, hij, hj, hx, hall⟩
  subst hij
  refine ifD (fun hlt => ?_) (fun hge => ⟨?_, hx⟩)
  · have hjn : j < n := by omega
    have hjl : j < l.length := by omega
    obtain ⟨a, cs, hp, hk, hr, hl⟩ := (h.ext hx).at (P := P) (t := T_impl_Step) (by kernel_rfl) hjn
    cases hp
    have hrr := hr; have hcode := hc _ (List.getElem_mem hjl)
    obtain ⟨a0, a1, a2p, a2n, a2c, a2z, a3, rfl, hd, ha⟩ := open_Step hr hcode
    have hgd : l.getD j [] = [.int a0, .bool a1, .ints a2z, .int a3] := by rw [getD_lt hjl, hd]
    have hprev : 0 < j -> 0 <= stepFrom (l.getD (j - 1) []) := fun h0 => by
      have := hall (j - 1) (by omega)
      simp only [stepOk, Bool.and_eq_true, decide_eq_true_eq] at this
      exact this.1.1.1
    have h00 : j = 0 -> a0 = 0 := fun h0 => by
      subst h0
      rw [hgd] at he; exact he
    refine ⟨⟨by omega, by omega⟩, _, _, _, _, _, _, by simpa using hl, ?_⟩
    intro r w2 hn2
    obtain ⟨w3, st, hb3, y3⟩ := hn2.fill (P := P) (t := T_impl_Step) hrr.cells1 (by kernel_rfl) rfl
    have D := Ext.drew w3
    have x3 := (hx.trans y3).trans D
    have hb4 := hb3.ext D
    have next : ∀ W, Ext w W -> stepOk l j = true -> ∃ t48 : Int, t48 = IntKind.wrap .i64 ((j : Int) + 1) /\ (fun (i : Int) (wr : World) => ∃ j : Nat, i = j /\ j <= n /\ Ext w wr /\ ∀ i < j, stepOk l i = true) t48 W /\ (fun (i : Int) (_ : World) => n - i.toNat) t48 W < (fun (i : Int) (_ : World) => n - i.toNat) (j : Int) wr := by
      intro W hW hs
      refine exW ⟨by omega, by omega⟩ ⟨⟨j + 1, by omega, by omega, hW, fun i hi => ?_⟩, ?_⟩
      · rcases Nat.lt_or_ge i j with h | h
        · exact hall i h
        · have : i = j := by omega
          subst this; exact hs
      · show n - ((j : Int) + 1).toNat < n - (j : Int).toNat
        omega
    have hdec : Reps w3.drew [.bool a1, .slice a2p a2n a2c, .int .i64 a3] [.bool a1, .ints a2z, .int a3] := ⟨rfl, ⟨_, _, _, rfl, ha.ext (y3.trans D)⟩, rfl, trivial⟩
    -- the rate, when the rest is well
    have rate : (0 <= a0 /\ a0 <= 1000000000) -> (0 < j -> stepFrom (l.getD (j - 1) []) < a0) -> ∃ (t470 : Bool) (t471_p : Option Addr) (t471_n : Nat) (t471_c : Nat) (t472 : Int), (∀ wv_8, Ext w3.drew wv_8 -> Loads P T_impl_Dec ((⟨r, 0, none⟩ : Addr).add 1) (.agg #[(.bool t470), (.slice t471_p t471_n t471_c), (.int .i64 t472)]) wv_8) /\ Calls P n_impl_TaxRateOk ⟨[(.agg #[(.bool t470), (.slice t471_p t471_n t471_c), (.int .i64 t472)])]⟩ w3.drew fun e_1 wv_9 =>
        ∃ (t48 : Bool), e_1 = .returned (.bool t48) /\
        ((!t48) = true -> (fun (v : Value) (w' : World) => v = .bool (stepsOk l) /\ Ext w w') (.bool false) wv_9) /\
        ((!t48) = false -> ∃ t51 : Int, t51 = IntKind.wrap .i64 ((j : Int) + 1) /\ (fun (i : Int) (wr : World) => ∃ j : Nat, i = j /\ j <= n /\ Ext w wr /\ ∀ i < j, stepOk l i = true) t51 wv_9 /\ (fun (i : Int) (_ : World) => n - i.toNat) t51 wv_9 < (fun (i : Int) (_ : World) => n - i.toNat) (j : Int) wr) := by
      intro hin hgt
      refine ⟨_, _, _, _, _, fun W hW => (hb4.ext hW).loadAAt 1 [.bool a1, .slice a2p a2n a2c, .int .i64 a3] rfl (by kernel_rfl) rfl, ?_⟩
      refine Ret.at (impl_TaxRateOk_c hdec rfl) ?_
      rintro v w5 ⟨hv, y5⟩
      subst hv
      have x5 := x3.trans y5
      refine ⟨_, rfl, ifN (fun hno => ⟨?_, x5⟩) (fun htax => next _ x5 ?_)⟩
      · rw [steps_no hjl]
        simp only [stepOk, hgd, stepFrom, List.drop_succ_cons, List.drop_zero, hno, Bool.and_false, Bool.false_and]
      · have hg : (decide (0 < j) && decide (a0 <= stepFrom (l.getD (j - 1) []))) = false := by
          simp only [Bool.and_eq_false_iff, decide_eq_false_iff_not]
          rcases Nat.eq_zero_or_pos j with h | h
          · exact .inl (by omega)
          · have := hgt h; exact .inr (by omega)
        unfold stepOk
        rw [hgd, show (decide (0 < j) && decide (stepFrom [D0.int a0, .bool a1, .ints a2z, .int a3] <= stepFrom (l.getD (j - 1) []))) = false from hg]
        simp only [stepFrom, List.drop_succ_cons, List.drop_zero, htax, Bool.not_false, Bool.and_true]
        exact decide_eq_true hin
    refine ⟨w3, st, _, fun W hW => (hb4.ext hW).loadAt 0 rfl (by kernel_rfl) rfl, ifD (fun hbig => ifT (ifT ⟨?_, x3⟩)) (fun hsmall => ?_)⟩
    · rw [steps_no hjl]
      simp only [stepOk, hgd, stepFrom, show decide (0 <= a0 /\ a0 <= 1000000000) = false by simp; omega, Bool.false_and]
    refine ifD (fun hpos => ?_) (fun hzero => ifF (rate ?_ ?_))
    · refine exW ⟨by omega, by omega⟩ ⟨⟨by omega, by omega⟩, stepFrom (l.getD (j - 1) []), fun W hW => ?_, _, fun W hW => (hb4.ext hW).loadAt 0 rfl (by kernel_rfl) rfl, ifD (fun hle => ifT ⟨?_, x3⟩) (fun hgt => rate ?_ ?_)⟩
      · have := first (j - 1) (by omega) W (x3.trans hW)
        rw [show ((j : Int) - 1).toNat = j - 1 by omega]
        exact this
      · rw [steps_no hjl]
        simp only [stepOk, hgd]
        rw [decide_eq_true (show stepFrom [.int a0, .bool a1, .ints a2z, .int a3] <= stepFrom (l.getD (j - 1) []) from hle), decide_eq_true (show 0 < j by omega)]
        simp
      · have := hprev (by omega)
        omega
      · intro _; omega
    · have := h00 (by omega)
      omega
    · intro h0; omega
  · rw [steps_yes hlen he (fun i hi => hall i (by omega))]
end Go.Proofs.YtgbknjdjbahdkaaGreatDoor
namespace Go.Proofs.YtgbknjdjbahdkaaGreatDoor
open Go Go.Proofs.YtgbknjdjbahdkaaGreatDoor.Sx
def stepT : List D0 -> ByteArray
  | [.int a, .bool b, .ints z, .int s] => (itxt a.toNat ++ S [58]) ++ percentT [.bool b, .ints z, .int s]
  | _ => S []
def stepsT (l : List (List D0)) : ByteArray := if stepsOk l then joinT (S [44]) (l.map stepT) else S []
theorem stepsOk_parts {l : List (List D0)} (h : stepsOk l = true) : l.length <= 8 /\ ∀ i (hi : i < l.length), 0 <= stepFrom (l[i]'hi) /\ stepFrom (l[i]'hi) <= 1000000000 := by
  simp only [stepsOk, Bool.and_eq_true, decide_eq_true_eq, List.all_eq_true] at h
  refine ⟨h.1.1.2, fun i hi => ?_⟩
  have h2 := h.2 i (List.mem_range.2 hi)
  simp only [stepOk, Bool.and_eq_true, decide_eq_true_eq] at h2
  have := h2.1.1
  rwa [getD_lt hi] at this
theorem stepT_size {x : List D0} (hc : x.map D0.code = [.int, .bool, .ints, .int]) (h : 0 <= stepFrom x /\ stepFrom x <= 1000000000) : (stepT x).size <= 300 := by
  unfold stepT
  split
  · rename_i a b z s
    have N := percentT_size [.bool b, .ints z, .int s]
    have s1 : (S [58]).size = 1 := rfl
    have h2 : 0 <= a /\ a <= 1000000000 := h
    have I : (itxt a.toNat).size <= 10 := itxt_lt 9 (by
      have : (10 : Nat) ^ (9 + 1) = 10000000000 := by decide
      omega)
    simp only [ByteArray.size_append, s1]
    omega
  · show 0 <= _; omega
theorem spec_StepsText_c {w : World} {p : Option Addr} {n c : Nat} {l : List (List D0)} (h : RowsR w 4 p n c l) (hc : ∀ x ∈ l, x.map D0.code = [.int, .bool, .ints, .int]) :
    Ret P n_spec_StepsText [.slice p n c] w fun v w' => v = .string (stepsT l) /\ Ext w w' := by
  have hln := h.1
  refine spec_StepsText_ret ?_
  unfold spec_StepsText
  refine Ret.at (spec_StepsOk_c h hc) ?_
  rintro v w0 ⟨hv, y0⟩
  subst hv
  refine ⟨_, rfl, ifN (fun e => ⟨by simp only [stepsT, e, Bool.false_eq_true, if_false], y0⟩) (fun e => ?_)⟩
  have hgoal : stepsT l = joinT (S [44]) (l.map stepT) := by simp only [stepsT, e, if_true]
  rw [hgoal]
  obtain ⟨h8, hfrom⟩ := stepsOk_parts e
  intro r w1 hn1
  have e1 := hn1.r_eq; have z1 := hn1.size
  have l0 := y0.le
  refine ⟨fun q m d i wr => ∃ j : Nat, i = j /\ j <= n /\ m = j /\ Own wr w.heap.size T_string 1 q j d (((l.take j).map stepT).map Value.string) /\ Ext w wr, fun _ _ _ i _ => n - i.toNat, ⟨0, rfl, by omega, rfl, Own.of_blk0 hn1.blk (by omega) (by simp) (by decide), y0.trans hn1.ext⟩, ?_⟩
  intro junk wr q m d i ⟨j, hij, hj, hm, how, hx⟩
  subst hij; subst hm
  have lx := hx.le
  refine ifD (fun hlt => ?_) (fun hge => ?_)
  · have hjn : m < n := by omega
    have hjl : m < l.length := by omega
    obtain ⟨a, cs, hp', hk, hr, hl⟩ := (h.ext hx).at (P := P) (t := T_impl_Step) (by kernel_rfl) hjn
    subst hp'
    have hrr := hr; have hcode := hc _ (List.getElem_mem hjl)
    have hfj := hfrom m hjl
    have hsz := stepT_size hcode hfj
    obtain ⟨a0, a1, a2p, a2n, a2c, a2z, a3, rfl, hd, ha⟩ := open_Step hr hcode
    have hnext : ((l.take (m + 1)).map stepT).map Value.string = ((l.take m).map stepT).map Value.string ++ [.string (stepT (l[m]'hjl))] := by
      rw [List.take_add_one, List.getElem?_eq_getElem hjl, List.map_append, List.map_append]; rfl
    rw [hd] at hnext hfj hsz
    have hf0 : 0 <= a0 /\ a0 <= 1000000000 := hfj
    have hsz' : (itxt a0.toNat ++ S [58]).size + (percentT [.bool a1, .ints a2z, .int a3]).size <= 300 := by rw [<- ByteArray.size_append]; exact hsz
    have hsz2 : (itxt a0.toNat).size + 1 <= 300 := by
      rw [ByteArray.size_append] at hsz'
      have : (S [58]).size = 1 := rfl
      omega
    refine ⟨⟨by omega, by omega⟩, _, _, _, _, _, _, by simpa using hl, ?_⟩
    intro r2 w2 hn2
    obtain ⟨w3, st, hb3, y3⟩ := hn2.fill (P := P) (t := T_impl_Step) hrr.cells1 (by kernel_rfl) rfl
    have D := Ext.drew w3
    have X3 := (hx.trans y3).trans D
    have bk := hb3.ext D
    refine ⟨w3, st, _, fun W hW => (bk.ext hW).loadAt 0 rfl (by kernel_rfl) rfl, ?_⟩
    refine Ret.at (spec_IntText_c  (by omega) (by omega)) ?_
    rintro v w4 ⟨hv, y4⟩
    subst hv
    have X4 := X3.trans y4
    refine ⟨_, rfl, y4, ?_, _, rfl, _, _, _, _, _, fun W hW => (bk.ext hW).loadAAt 1 [.bool a1, .slice a2p a2n a2c, .int .i64 a3] rfl (by kernel_rfl) rfl, ?_⟩
    · show _ + 1 <= _
      omega
    have hm : Reps w4 [.bool a1, .slice a2p a2n a2c, .int .i64 a3] [.bool a1, .ints a2z, .int a3] := ⟨rfl, ⟨_, _, _, rfl, ha.ext ((y3.trans D).trans y4)⟩, rfl, trivial⟩
    refine Ret.at (spec_Percent_c hm rfl ) ?_
    rintro v w6 ⟨hv, y6⟩
    subst hv
    refine ⟨_, rfl, by omega, _, rfl, ?_⟩
    intro r5 w5 hn5
    have Y5 := (((y3.trans D).trans y4).trans y6).trans hn5.ext
    have hb5 : w.heap.size <= w5.heap.size := (hx.trans Y5).le
    obtain ⟨p', c', w7, hap, how7, hch, _⟩ := (how.ext Y5).push1 (P := P) sliceT_string hb5 hn5.blk rfl (by simp [Value.oneCell']) (by omega) (by decide)
    refine ⟨p', m + 1, c', w7, hap, exW ⟨by omega, by omega⟩ ⟨⟨m + 1, by omega, by omega, rfl, by rw [hnext]; exact how7, ?_⟩, ?_⟩⟩
    · exact (hx.trans Y5).chg hch fun k hk => (World.ownsRow.lt how k (by cases q <;> simp_all [Value.ownBlock])).1
    · show n - ((m : Int) + 1).toNat < n - (m : Int).toNat
      omega
  · have hmn : m = n := by omega
    subst hmn
    rw [List.take_of_length_le (by omega)] at how
    have hst := own_strs how
    refine Ret.at (spec_Join_c hst (S [44]) (k := 300) ?_ ?_) ?_
    · intro x hx'
      obtain ⟨y, hy, rfl⟩ := List.mem_map.1 hx'
      obtain ⟨i, hi, rfl⟩ := List.getElem_of_mem hy
      exact stepT_size (hc _ (List.getElem_mem hi)) (hfrom i hi)
    · have : m * (300 + (S [44]).size) <= 8 * (300 + (S [44]).size) := Nat.mul_le_mul_right _ (by omega)
      have s2 : (S [44]).size = 1 := rfl
      rw [s2] at this ⊢
      omega
    rintro v w6 ⟨hv, y6⟩
    subst hv
    exact ⟨_, rfl, rfl, hx.trans y6⟩
end Go.Proofs.YtgbknjdjbahdkaaGreatDoor
namespace Go.Proofs.YtgbknjdjbahdkaaGreatDoor
open Go Go.Proofs.YtgbknjdjbahdkaaGreatDoor.Sx
def BA (l : List UInt8) : ByteArray := ⟨l.toArray⟩
theorem BA_data (l : List UInt8) : (BA l).data.toList = l := by simp [BA]
theorem BA_eq (s : ByteArray) : BA s.data.toList = s := ba_ext (by rw [BA_data])
def stR (p : List UInt8) : Option (List D0) := match cuts 58 [] p with
  | [a, b] => match tiV (BA a) with
    | some n => if tpOk (BA b) then some (.int n :: tpR (BA b)) else none
    | none => none
  | _ => none
def stL : List (List UInt8) -> Option (List (List D0))
  | [] => some []
  | p :: r => match stR p with
    | none => none
    | some x => match stL r with
      | none => none
      | some xs => some (x :: xs)
def tsV (s : ByteArray) : Option (List (List D0)) := match stL (cuts 44 [] s.data.toList) with
  | none => none
  | some l => if stepsOk l then some l else none
theorem stL_snoc : ∀ {ps : List (List UInt8)} {xs : List (List D0)} {p : List UInt8} {x : List D0}, stL ps = some xs -> stR p = some x -> stL (ps ++ [p]) = some (xs ++ [x])
  | [], xs, p, x, h, g => by
    simp only [stL, Option.some.injEq] at h
    subst h
    simp [stL, g]
  | q :: r, xs, p, x, h, g => by
    simp only [stL] at h
    cases hq : stR q with
    | none => rw [hq] at h; cases h
    | some y =>
      rw [hq] at h
      cases hr : stL r with
      | none => rw [hr] at h; cases h
      | some ys =>
        rw [hr] at h
        simp only [Option.some.injEq] at h
        subst h
        show (match stR q with | none => none | some x => match stL (r ++ [p]) with | none => none | some xs => some (x :: xs)) = _
        rw [hq, stL_snoc hr g]; rfl
theorem stL_bad : ∀ {ps : List (List UInt8)} {p : List UInt8}, p ∈ ps -> stR p = none -> stL ps = none
  | q :: r, p, hm, h => by
    simp only [stL]
    rcases List.mem_cons.1 hm with rfl | hm
    · rw [h]
    · cases stR q with
      | none => rfl
      | some y => rw [stL_bad hm h]
theorem stL_len : ∀ {ps : List (List UInt8)} {xs : List (List D0)}, stL ps = some xs -> xs.length = ps.length
  | [], xs, h => by simp only [stL, Option.some.injEq] at h; subst h; rfl
  | q :: r, xs, h => by
    simp only [stL] at h
    cases hq : stR q with
    | none => rw [hq] at h; cases h
    | some y =>
      rw [hq] at h
      cases hr : stL r with
      | none => rw [hr] at h; cases h
      | some ys =>
        rw [hr] at h
        simp only [Option.some.injEq] at h
        subst h
        simp [stL_len hr]
theorem stL_all : ∀ {ps : List (List UInt8)} {xs : List (List D0)}, stL ps = some xs -> ∀ i (hi : i < ps.length) (hj : i < xs.length), stR ps[i] = some xs[i]
  | [], xs, h, i, hi, _ => by simp at hi
  | q :: r, xs, h, i, hi, hj => by
    simp only [stL] at h
    cases hq : stR q with
    | none => rw [hq] at h; cases h
    | some y =>
      rw [hq] at h
      cases hr : stL r with
      | none => rw [hr] at h; cases h
      | some ys =>
        rw [hr] at h
        simp only [Option.some.injEq] at h
        subst h
        cases i with
        | zero => exact hq
        | succ i => exact stL_all hr i (by simpa using hi) (by simpa using hj)
theorem stR_parts {p : List UInt8} {x : List D0} (h : stR p = some x) : ∃ a b n, cuts 58 [] p = [a, b] /\ tiV (BA a) = some n /\ tpOk (BA b) = true /\ x = .int n :: tpR (BA b) := by
  unfold stR at h
  split at h
  · rename_i a b hab
    split at h
    · rename_i n hn
      split at h
      · rename_i ht
        cases h
        exact ⟨a, b, n, hab, hn, ht, rfl⟩
      · cases h
    · cases h
  · cases h
theorem stR_make {p a b : List UInt8} {n : Int} (h : cuts 58 [] p = [a, b]) (hn : tiV (BA a) = some n) (ht : tpOk (BA b) = true) : stR p = some (.int n :: tpR (BA b)) := by
  unfold stR
  rw [h]
  simp only
  rw [hn]
  simp only
  rw [if_pos ht]
theorem stR_no {p a b : List UInt8} (h : cuts 58 [] p = [a, b]) (hn : tiV (BA a) = none ∨ tpOk (BA b) = false) : stR p = none := by
  unfold stR
  rw [h]
  simp only
  rcases hn with hn | hn
  · rw [hn]
  · split
    · rw [if_neg (by rw [hn]; simp)]
    · rfl
theorem stR_len {p : List UInt8} (h : (cuts 58 [] p).length ≠ 2) : stR p = none := by
  cases hs : stR p with
  | none => rfl
  | some x =>
    obtain ⟨a, b, n, e, _⟩ := stR_parts hs
    rw [e] at h; exact absurd rfl h
theorem stL_code {ps : List (List UInt8)} {xs : List (List D0)} (h : stL ps = some xs) : ∀ x ∈ xs, x.map D0.code = [.int, .bool, .ints, .int] := fun x hx => by
  obtain ⟨i, hi, rfl⟩ := List.getElem_of_mem hx
  obtain ⟨a, b, n, _, _, _, e⟩ := stR_parts (stL_all h i (by rw [<- stL_len h]; exact hi) hi)
  rw [e, List.map_cons, tpR_code]; rfl
theorem join_cuts (c : UInt8) : ∀ (l acc : List UInt8), Lib.join (cuts c acc l) [c] = acc ++ l
  | [], acc => by rw [cuts, Lib.join_one, List.append_nil]
  | x :: r, acc => by
    by_cases hx : x = c
    · subst hx
      rw [cuts, if_pos rfl, Lib.join_cons]
      congr 1
      have ih := join_cuts x r []
      cases hc : cuts x [] r with
      | nil => exact absurd hc (cuts_ne _ _)
      | cons y ys =>
        rw [hc, Lib.join_cons, List.nil_append] at ih
        show [x] ++ y ++ Lib.joinTail [x] ys = x :: r
        rw [List.append_assoc, ih]; rfl
    · rw [cuts, if_neg hx, join_cuts c r, List.append_assoc]; rfl
theorem stR_text {p : List UInt8} {x : List D0} (h : stR p = some x) (h0 : 0 <= stepFrom x) : stepT x = BA p := by
  obtain ⟨a, b, n, e, hn, ht, rfl⟩ := stR_parts h
  have hp : p = a ++ 58 :: b := by
    have := join_cuts 58 p []
    rw [e, List.nil_append] at this
    rw [<- this]
    show a ++ ([58] ++ b ++ []) = _
    simp
  have hn0 : 0 <= n := h0
  obtain ⟨ha, _, _⟩ := tiV_some hn
  rw [itxtI_nn hn0] at ha
  have hb : percentT (tpR (BA b)) = BA b := by
    have ht2 := ht
    unfold tpR
    rw [if_pos ht]
    unfold tpOk at ht2
    simp only [Bool.and_eq_true, decide_eq_true_eq] at ht2
    exact ht2.2.2
  have hc := tpR_code (BA b)
  match hr : tpR (BA b), hc with
  | [.bool y, .ints z, .int t], _ =>
    show (itxt n.toNat ++ S [58]) ++ percentT [.bool y, .ints z, .int t] = _
    rw [<- hr, hb, <- ha]
    refine ba_ext ?_
    rw [ByteArray.data_append, ByteArray.data_append, Array.toList_append, Array.toList_append, BA_data, BA_data, BA_data, hp]
    show a ++ [58] ++ b = _
    simp
theorem steps_text {s : ByteArray} {xs : List (List D0)} (h : stL (cuts 44 [] s.data.toList) = some xs) (hok : stepsOk xs = true) : stepsT xs = s := by
  obtain ⟨_, hf⟩ := stepsOk_parts hok
  have hm : xs.map stepT = (cuts 44 [] s.data.toList).map BA := by
    refine List.ext_getElem (by simp [stL_len h]) fun i h1 h2 => ?_
    rw [List.getElem_map, List.getElem_map]
    have hi : i < xs.length := by simpa using h1
    exact stR_text (stL_all h i (by simpa using h2) hi) (hf i hi).1
  unfold stepsT
  rw [if_pos hok, hm]
  refine ba_ext ?_
  unfold joinT
  rw [List.map_map]
  have e : ((cuts 44 [] s.data.toList).map ((fun x : ByteArray => x.data.toList) ∘ BA)) = cuts 44 [] s.data.toList := by
    conv => rhs; rw [<- List.map_id (cuts 44 [] s.data.toList)]
    exact List.map_congr_left fun x _ => BA_data x
  rw [e]
  show (Lib.join (cuts 44 [] s.data.toList) [44]).toArray.toList = _
  rw [join_cuts]; simp
theorem tsV_bad {s : ByteArray} {p : List UInt8} (hm : p ∈ cuts 44 [] s.data.toList) (h : stR p = none) : tsV s = none := by
  unfold tsV; rw [stL_bad hm h]
theorem tsV_many {s : ByteArray} (h : 8 < (cuts 44 [] s.data.toList).length) : tsV s = none := by
  unfold tsV
  cases hs : stL (cuts 44 [] s.data.toList) with
  | none => rfl
  | some l =>
    simp only
    rw [if_neg]
    intro hok
    have := (stepsOk_parts hok).1
    rw [stL_len hs] at this; omega
theorem tsV_end {s : ByteArray} {xs : List (List D0)} (h : stL (cuts 44 [] s.data.toList) = some xs) : tsV s = if stepsOk xs then some xs else none := by
  unfold tsV; rw [h]
theorem cuts_le {c : UInt8} : ∀ (l acc : List UInt8), ∀ x ∈ cuts c acc l, x.length <= acc.length + l.length
  | [], acc, x, hx => by
    rw [cuts, List.mem_singleton] at hx
    subst hx; simp
  | y :: r, acc, x, hx => by
    rw [cuts] at hx
    split at hx
    · rcases List.mem_cons.1 hx with rfl | hx
      · simp
      · have := cuts_le r [] x hx
        simp only [List.length_nil, List.length_cons] at this ⊢
        omega
    · have := cuts_le r _ x hx
      simp only [List.length_append, List.length_cons, List.length_nil] at this ⊢
      omega
end Go.Proofs.YtgbknjdjbahdkaaGreatDoor
namespace Go.Proofs.YtgbknjdjbahdkaaGreatDoor
open Go Go.Proofs Go.Proofs.YtgbknjdjbahdkaaGreatDoor.Sx
theorem ext_alloc (w : World) (o : Obj) : Ext w (w.alloc o) := (RowKit.Below.refl _ _).alloc (Nat.le_refl _) _
set_option maxHeartbeats 1000000 in
set_option maxRecDepth 100000 in
theorem it_rec {n z : Int} {w : World} {s1 s2 : ByteArray} (h2 : n < 0) (hd : ¬ RowKit.wrap64 (Int.tdiv n 10) = 0) (hz : IntKind.u8.wrap (IntKind.i64.wrap (48 - n.tmod 10)) = z)
    (hcv : ∀ (W : World) (b : Nat), W.heap[b]? = some (.cells #[.int .u8 z] 5 (0, 0)) -> Sem.run Tryz.prog (convert 28 9 (.slice (some ⟨b, 0, none⟩) 1 1)) W = .ok (.string (strOfNums [z])) W)
    (ih : ∀ w : World, Calls Tryz.prog 75 #[.int .i64 (IntKind.i64.wrap (Int.tdiv n 10))] w fun e w' => e = .returned (.string s1) /\ Ext w w') (hs : s1.size + (strOfNums [z]).size <= 9223372036854775807) (he : s1 ++ strOfNums [z] = s2) : Calls Tryz.prog 75 #[.int .i64 n] w fun e w' => e = .returned (.string s2) /\ Ext w w' := by
  have hc1 : ∀ W : World, Sem.run Tryz.prog (convert 28 9 (.slice (some ⟨W.heap.size, 0, none⟩) 1 1)) (W.alloc (.cells #[.int .u8 z] 5)) = .ok (.string (strOfNums [z])) (W.alloc (.cells #[.int .u8 z] 5)) := fun W => hcv _ _ (heap_alloc_new _ _)
  have hc3 := hcv ((w.alloc (.cells #[.int .u8 z] 5)).drew) w.heap.size (heap_alloc_new w _)
  go_enter Tryz.func75, Tryz.ntmps75
  go_wp2
  go_region_with (go_at_call 75; refine (ih _).mono ?_; rintro e w' ⟨rfl, hx⟩; try have hc2 := hcv w' w.heap.size ((hx.block w.heap.size (by simp)).trans (heap_alloc_new w.drew _)))
  all_goals (go_wp2; go_ret)
  · exact ⟨rfl, (Ext.drew w).trans (hx.trans (ext_alloc w' _))⟩
  · exact ⟨rfl, (ext_alloc w _).trans ((Ext.drew _).trans hx)⟩
  · exact ⟨rfl, (ext_alloc w _).trans ((Ext.drew _).trans hx)⟩
theorem tdiv10 (m : Nat) : Int.tdiv (-(m : Int)) 10 = -((m / 10 : Nat) : Int) := by rw [Int.neg_tdiv]; rfl
theorem tmod10 (m : Nat) : Int.tmod (-(m : Int)) 10 = -((m % 10 : Nat) : Int) := by rw [Int.neg_tmod]; rfl
theorem wrapU8 {z : Int} (h0 : 0 <= z) (h1 : z < 256) : IntKind.wrap .u8 z = z := by
  simp only [IntKind.wrap, IntKind.bits, IntKind.signed]
  simp
  omega
theorem itxtI_big {m : Nat} (h : 10 <= m) : itxtI (-((m / 10 : Nat) : Int)) ++ strOfNums [((48 + m % 10 : Nat) : Int)] = itxtI (-(m : Int)) := by
  rw [itxtI_neg (by omega), itxtI_neg (by omega), Int.natAbs_neg, Int.natAbs_neg, Int.natAbs_natCast, Int.natAbs_natCast, itxt_big (u := m) (by omega), ByteArray.append_assoc]
theorem itxt_size (u : Nat) (h : u <= 9223372036854775808) : (itxt u).size <= 19 := itxt_lt 18 (Nat.lt_of_le_of_lt h (by decide))
theorem spec_IntText_neg : ∀ (m : Nat), 0 < m -> m <= 9223372036854775808 -> ∀ w : World, Calls Tryz.prog 75 #[.int .i64 (-(m : Int))] w fun e w' => e = .returned (.string (itxtI (-(m : Int)))) /\ Ext w w' := by
  intro m
  induction m using Nat.strongRecOn with
  | ind m ih =>
    intro h0 h1 w
    have t1 := tdiv10 m
    have t2 := tmod10 m
    by_cases hb : 10 <= m
    · have hw : IntKind.i64.wrap (Int.tdiv (-(m : Int)) 10) = -((m / 10 : Nat) : Int) := by rw [t1]; exact wrap64 (by omega) (by omega)
      refine it_rec (z := ((48 + m % 10 : Nat) : Int)) (s1 := itxtI (-((m / 10 : Nat) : Int))) (by omega) ?_ ?_ ?_ ?_ ?_ (itxtI_big hb)
      · rw [t1]
        unfold RowKit.wrap64
        omega
      · rw [t2, show (48 - -((m % 10 : Nat) : Int)) = ((48 + m % 10 : Nat) : Int) by omega, wrap64 (by omega) (by omega)]
        exact wrapU8 (by omega) (by omega)
      · intro W b hW
        exact convs_bytes (ee := T_uint8) [((48 + m % 10 : Nat) : Int)] (e := T_uint8) (by kernel_rfl) (by kernel_rfl) (by kernel_rfl) hW
      · intro w
        rw [hw]
        exact ih (m / 10) (by omega) (by omega) (by omega) w
      · have := itxt_size (m / 10) (by omega)
        rw [itxtI_neg (by omega), Int.natAbs_neg, Int.natAbs_natCast, ByteArray.size_append, strOfNums_size]
        have : (S [45]).size = 1 := rfl
        simp only [List.length_cons, List.length_nil]
        omega
    · have key : Ret P n_spec_IntText [.int .i64 (-(m : Int))] w fun v w' => v = .string (itxtI (-(m : Int))) /\ Ext w w' := by
        refine spec_IntText_ret ?_
        unfold spec_IntText
        refine ifD (fun _ => ?_) (fun h => absurd h (by omega))
        rw [t1, show m / 10 = 0 by omega]
        refine ⟨by decide, exW ⟨by decide, by decide⟩ ⟨fun _ => exW ⟨by omega, by omega⟩ ⟨_, rfl, ?_⟩, fun e => absurd e (by decide)⟩⟩
        rw [wrapU8 (by omega) (by omega)]
        intro r w1 hn
        refine ⟨_, convs_bytes (ee := T_uint8) [48 - -(m : Int)] (e := T_uint8) (by kernel_rfl) (by kernel_rfl) (by kernel_rfl) hn.blk, ?_, _, rfl, ?_, hn.ext⟩
        · rw [strOfNums_size]
          have : (S [45]).size = 1 := rfl
          simp only [List.length_cons, List.length_nil]
          omega
        · rw [itxtI_neg (by omega), Int.natAbs_neg, Int.natAbs_natCast, itxt_small (u := m) (by omega)]
          rw [show 48 - -(m : Int) = ((48 + m : Nat) : Int) by omega]
      exact (show Calls _ _ _ _ _ from key).mono fun e w' ⟨v, h1, h2, h3⟩ => ⟨by rw [h1, h2], h3⟩
theorem spec_IntText_i {w : World} {n : Int} (h0 : -9223372036854775808 <= n) (h1 : n <= 9223372036854775807) : Ret P n_spec_IntText [.int .i64 n] w fun v w' => v = .string (itxtI n) /\ Ext w w' := by
  by_cases hn : 0 <= n
  · rw [itxtI_nn hn]
    exact spec_IntText_c hn h1
  · obtain ⟨m, rfl⟩ : ∃ m : Nat, n = -(m : Int) := ⟨n.natAbs, by omega⟩
    have := spec_IntText_neg m (by omega) (by omega) w
    exact this.mono fun e w' ⟨h1, h2⟩ => ⟨_, h1, rfl, h2⟩
end Go.Proofs.YtgbknjdjbahdkaaGreatDoor
namespace Go.Proofs.YtgbknjdjbahdkaaGreatDoor
open Go Go.Proofs.YtgbknjdjbahdkaaGreatDoor.Sx
theorem tiV_shape {s : ByteArray} {v : Int} (h : tiV s = some v) {neg : Bool} {l : List UInt8} (h1 : neg = true -> s.data.toList = 45 :: l) (h2 : neg = false -> s.data.toList = l /\ ∀ r, l ≠ 45 :: r) :
    l = Lib.decDigits v.natAbs /\ v = (if neg then -((digV l : Nat) : Int) else ((digV l : Nat) : Int)) /\ -9223372036854775808 <= v /\ v <= 9223372036854775807 := by
  obtain ⟨hs, b0, b1⟩ := tiV_some h
  have hsl : s.data.toList = Lib.itoa v := by rw [hs, itxtI_data]
  have hl : l = Lib.decDigits v.natAbs /\ (neg = true ↔ v < 0) := by
    by_cases hv : v < 0
    · have e : Lib.itoa v = 45 :: Lib.decDigits v.natAbs := by unfold Lib.itoa; rw [if_pos hv]
      rw [e] at hsl
      cases neg with
      | true =>
        have := h1 rfl
        rw [hsl, List.cons.injEq] at this
        exact ⟨this.2.symm, by simp [hv]⟩
      | false =>
        obtain ⟨a, b⟩ := h2 rfl
        exact absurd (a.symm.trans hsl) (b _)
    · have e : Lib.itoa v = Lib.decDigits v.natAbs := by
        unfold Lib.itoa; rw [if_neg hv, show v.toNat = v.natAbs by omega]
      rw [e] at hsl
      cases neg with
      | true =>
        have := h1 rfl
        rw [hsl] at this
        have ha := dec_all v.natAbs
        rw [this, List.all_cons, Bool.and_eq_true] at ha
        exact absurd ha.1 (by decide)
      | false =>
        obtain ⟨a, b⟩ := h2 rfl
        exact ⟨a.symm.trans hsl, by simp [hv]⟩
  obtain ⟨e1, e2⟩ := hl
  refine ⟨e1, ?_, b0, b1⟩
  rw [e1, digV_dec]
  cases neg with
  | true => have := e2.1 rfl; rw [if_pos rfl]; omega
  | false =>
    have : ¬ v < 0 := fun hh => by have := e2.2 hh; cases this
    rw [if_neg (by simp)]; omega
theorem tdivMin {d : Nat} (h : d <= 9) : Int.tdiv (-9223372036854775808 + (d : Int)) 10 = -(((9223372036854775808 - d) / 10 : Nat) : Int) := by
  have e : (-9223372036854775808 + (d : Int)) = -(((9223372036854775808 - d : Nat)) : Int) := by omega
  rw [e, tdiv10]
theorem spec_TextInt_j3_c {s : ByteArray} {n : Int} {w0 w : World} (hx : Ext w0 w) (h0 : -9223372036854775808 <= n) (h1 : n <= 9223372036854775807) (hF : ∀ v, tiV s = some v -> v = n) :
    spec_TextInt_j3 s n w fun x w' => x = .tuple #[.int .i64 ((tiV s).getD 0), .bool (tiV s).isSome] /\ Ext w0 w' := by
  unfold spec_TextInt_j3
  refine Ret.at (spec_IntText_i h0 h1) ?_
  rintro v w1 ⟨rfl, y1⟩
  refine ⟨_, rfl, ifD (fun hne => ?_) (fun heq => ?_)⟩
  · have : tiV s = none := by
      cases ht : tiV s with
      | none => rfl
      | some v =>
        obtain ⟨a, _, _⟩ := tiV_some ht
        exact absurd (by rw [<- hF v ht]; exact a.symm) hne
    rw [this]
    exact ⟨rfl, hx.trans y1⟩
  · have he : itxtI n = s := Classical.not_not.1 heq
    rw [tiV_itoa (v := n) h0 h1 (by rw [<- he, itxtI_data])]
    exact ⟨rfl, hx.trans y1⟩
theorem spec_TextInt_j1_c {s t : ByteArray} {neg : Bool} {w : World} {l : List UInt8} (hl : t.data.toList = l) (hts : t.size <= 1048576) (h1 : neg = true -> s.data.toList = 45 :: l) (h2 : neg = false -> s.data.toList = l /\ ∀ r, l ≠ 45 :: r) :
    spec_TextInt_j1 s neg t w fun x w' => x = .tuple #[.int .i64 ((tiV s).getD 0), .bool (tiV s).isSome] /\ Ext w w' := by
  have hsl : t.size = l.length := by rw [ba_size, hl]
  unfold spec_TextInt_j1
  refine Ret.at (spec_IsDigits_c t (by omega) w) ?_
  rintro v w1 ⟨rfl, rfl⟩
  rw [hl]
  have hno : (∀ v, tiV s = some v -> False) -> tiV s = none := fun h => by
    cases ht : tiV s with
    | none => rfl
    | some v => exact (h v ht).elim
  refine ⟨_, rfl, fun hd => ⟨fun _ => ?_, fun e => absurd e (by simp)⟩, fun hd => ifD (fun hlen => ?_) (fun hlen => ?_)⟩
  · rw [hno fun v hv => ?_]
    · exact ⟨rfl, Ext.refl _⟩
    · obtain ⟨e, _⟩ := tiV_shape hv h1 h2
      have : digS l = true := by
        rw [e]
        unfold digS
        rw [dec_all]
        have := dec_ne v.natAbs
        cases hh : Lib.decDigits v.natAbs with
        | nil => exact absurd hh this
        | cons _ _ => rfl
      rw [this] at hd
      exact absurd hd (by simp)
  · rw [hno fun v hv => ?_]
    · exact ⟨rfl, Ext.refl _⟩
    · obtain ⟨e, _, b0, b1⟩ := tiV_shape hv h1 h2
      have h3 := itxt_size v.natAbs (by omega)
      rw [ba_size, itxt] at h3
      have h4 : (Lib.decDigits v.natAbs).length <= 19 := by simpa using h3
      rw [<- e] at h4
      omega
  · have hdl : digS l = true := by cases hh : digS l <;> simp_all
    have hall : l.all isDig = true := by unfold digS at hdl; simp only [Bool.and_eq_true] at hdl; exact hdl.2
    unfold spec_TextInt_j2
    refine ⟨fun n i W => ∃ j : Nat, i = j /\ j <= l.length /\ n = -((digV (l.take j) : Nat) : Int) /\ digV (l.take j) <= 9223372036854775808 /\ W = w1, fun _ i _ => l.length - i.toNat, ⟨0, rfl, by omega, rfl, by rw [List.take_zero]; decide, rfl⟩, ?_⟩
    rintro junk W n i ⟨j, rfl, hj, rfl, hV, rfl⟩
    refine ifD (fun hlt => ?_) (fun hge => ?_)
    · have hjl : j < l.length := by omega
      have hdj : isDig l[j] = true := List.all_eq_true.1 hall _ (List.getElem_mem hjl)
      have hd2 := dig_le hdj
      obtain ⟨d, hd⟩ : ∃ d : Nat, d = (l[j]).toNat - 48 := ⟨_, rfl⟩
      have hstep : digV (l.take (j + 1)) = digV (l.take j) * 10 + d := by
        rw [List.take_succ_eq_append_getElem hjl, digV_append]
        show digV (l.take j) * 10 ^ 1 + (0 * 10 + ((l[j]).toNat - 48)) = _
        rw [hd]; omega
      refine ⟨by omega, l[j], by subst hl; exact ba_get hjl, exW ⟨by omega, by omega⟩ (exW ⟨by omega, by omega⟩ ?_)⟩
      rw [show (((l[j]).toNat : Nat) : Int) - 48 = (d : Int) by omega]
      refine exW ⟨by omega, by omega⟩ ⟨by decide, ?_⟩
      rw [tdivMin (by omega)]
      refine exW ⟨by omega, by omega⟩ (ifD (fun hbad => ?_) (fun hok => ?_))
      · rw [hno fun v hv => ?_]
        · exact ⟨rfl, Ext.refl _⟩
        · obtain ⟨e, e2, b0, b1⟩ := tiV_shape hv h1 h2
          have h3 := digV_take l (j + 1)
          have h4 : digV l <= 9223372036854775808 := by
            split at e2 <;> omega
          omega
      · have hle : digV (l.take j) * 10 + d <= 9223372036854775808 := by omega
        refine exW ⟨by omega, by omega⟩ (exW ⟨by omega, by omega⟩ (exW ⟨by omega, by omega⟩ ⟨⟨j + 1, by omega, by omega, by rw [hstep]; omega, by omega, rfl⟩, by show l.length - ((j : Int) + 1).toNat < l.length - (j : Int).toNat; omega⟩))
    · have hjn : j = l.length := by omega
      subst hjn
      rw [List.take_length] at hV ⊢
      cases neg with
      | true =>
        refine ⟨fun e => absurd e (by simp), fun _ => ?_⟩
        exact spec_TextInt_j3_c (Ext.refl _) (by omega) (by omega) (fun v hv => by
          obtain ⟨_, e2, _, _⟩ := tiV_shape hv h1 h2
          rw [if_pos rfl] at e2; exact e2)
      | false =>
        refine ⟨fun _ => ifD (fun hmin => ?_) (fun hmin => ?_), fun e => absurd e (by simp)⟩
        · rw [hno fun v hv => ?_]
          · exact ⟨rfl, Ext.refl _⟩
          · obtain ⟨_, e2, _, b1⟩ := tiV_shape hv h1 h2
            rw [if_neg (by simp)] at e2
            omega
        · refine exW ⟨by omega, by omega⟩ ?_
          exact spec_TextInt_j3_c (Ext.refl _) (by omega) (by omega) (fun v hv => by
            obtain ⟨_, e2, _, _⟩ := tiV_shape hv h1 h2
            rw [if_neg (by simp)] at e2; omega)
theorem spec_TextInt_c {w : World} (s : ByteArray) (hs : s.size <= 1048576) :
    Ret P n_spec_TextInt [.string s] w fun x w' => x = .tuple #[.int .i64 ((tiV s).getD 0), .bool (tiV s).isSome] /\ Ext w w' := by
  obtain ⟨l, hl⟩ : ∃ l, s.data.toList = l := ⟨_, rfl⟩
  have hsl : s.size = l.length := by rw [ba_size, hl]
  refine spec_TextInt_ret ?_
  unfold spec_TextInt
  refine ifD (fun hpos => ?_) (fun h0 => ?_)
  · cases l with
    | nil => have h5 : s.size = 0 := hsl; omega
    | cons c r =>
      refine ⟨by omega, c, by
        have h5 := ba_get (s := s) (i := 0) (by rw [hl]; simp)
        have h6 : s.data.toList[0]'(by rw [hl]; simp) = c := by simp [hl]
        rw [h6] at h5; exact h5, ?_⟩
      unfold spec_TextInt_j0
      refine ⟨fun hc => ?_, fun hc => ?_⟩
      · have hc45 : c = 45 := UInt8.toNat_inj.1 (by have := of_decide_eq_true hc; exact_mod_cast this)
        subst hc45
        rw [hc]
        refine ⟨⟨by omega, by omega⟩, ?_⟩
        refine spec_TextInt_j1_c (l := r) ?_ (by rw [ByteArray.size_extract]; omega) (fun _ => hl) (fun e => absurd e (by simp))
        rw [ByteArray.data_extract, Array.toList_extract, hl, List.extract_eq_take_drop]
        rw [hsl]
        simp
      · rw [hc]
        refine spec_TextInt_j1_c (l := c :: r) hl (by omega) (fun e => absurd e (by simp)) (fun _ => ⟨hl, fun r' he => ?_⟩)
        rw [List.cons.injEq] at he
        have := of_decide_eq_false hc
        rw [he.1] at this
        exact this rfl
  · have hnil : l = [] := List.length_eq_zero_iff.1 (by omega)
    subst hnil
    unfold spec_TextInt_j0
    refine ⟨fun e => absurd e (by simp), fun _ => ?_⟩
    exact spec_TextInt_j1_c (l := []) hl (by omega) (fun e => absurd e (by simp)) (fun _ => ⟨hl, fun r' he => by simp at he⟩)
end Go.Proofs.YtgbknjdjbahdkaaGreatDoor
namespace Go.Proofs.YtgbknjdjbahdkaaGreatDoor
open Go Go.Proofs.YtgbknjdjbahdkaaGreatDoor.Sx
theorem sliceT_cutS : sliceT P T_s_string T_string (.string ByteArray.empty) 1 16 := ⟨by kernel_rfl, by kernel_rfl, rfl, by decide⟩
theorem spec_CutAt_o {w : World} (s : ByteArray) (c : UInt8) (hs : s.size <= 1048576) : Ret P n_spec_CutAt [.string s, .string ⟨#[c]⟩] w fun v w' => ∃ (p : Option Addr) (n k : Nat) (ps : List ByteArray), v = .slice p n k /\ Own w' w.heap.size T_string 1 p n k (ps.map Value.string) /\ ps.map (·.data.toList) = cuts c [] s.data.toList /\ Ext w w' := by
  obtain ⟨l, hl⟩ : ∃ l, s.data.toList = l := ⟨_, rfl⟩
  have hsl : s.size = l.length := by rw [ba_size, hl]
  refine spec_CutAt_ret ?_
  unfold spec_CutAt
  intro r w1 hn1
  obtain ⟨Inv, hI⟩ : ∃ I : Option Addr -> Nat -> Nat -> Int -> Int -> World -> Prop, ∀ p n k a i W, I p n k a i W ↔ ∃ (j b : Nat) (ps : List ByteArray), i = j /\ j <= l.length /\ a = b /\ b <= j /\ n <= j /\ Own W w.heap.size T_string 1 p n k (ps.map Value.string) /\ Ext w W /\ ps.map (·.data.toList) ++ cuts c ((l.take j).drop b) (l.drop j) = cuts c [] l := ⟨_, fun _ _ _ _ _ _ => Iff.rfl⟩
  obtain ⟨mu, hmu⟩ : ∃ m : Option Addr -> Nat -> Nat -> Int -> Int -> World -> Nat, ∀ p n k a i W, m p n k a i W = l.length - i.toNat := ⟨fun _ _ _ _ i _ => l.length - i.toNat, fun _ _ _ _ _ _ => rfl⟩
  have e1 := hn1.r_eq
  refine ⟨Inv, mu, (hI _ _ _ _ _ _).2 ⟨0, 0, [], rfl, by omega, rfl, by omega, by omega, Own.of_blk0 hn1.blk (by omega) (by simp) (by decide), hn1.ext, rfl⟩, ?_⟩
  intro junk wr p n k a i hinv
  obtain ⟨j, b, ps, hij, hj, hab, hbj, hnj, ho, hx, hcut⟩ := (hI _ _ _ _ _ _).1 hinv
  subst hij; subst hab
  have lx := hx.le
  have ext : ∀ (b2 j2 : Nat), (s.extract b2 j2).data.toList = (l.take j2).drop b2 := fun b2 j2 => by
    rw [ByteArray.data_extract, Array.toList_extract, hl, List.extract_eq_take_drop, List.drop_take]
  refine ifD (fun hlt => ?_) (fun hge => ?_)
  · have hjl : j < l.length := by omega
    have hdr : l.drop j = l[j]'hjl :: l.drop (j + 1) := List.drop_eq_getElem_cons hjl
    rw [hdr, cuts] at hcut
    have next : ∀ (p2 : Option Addr) (n2 k2 b2 : Nat) (ps2 : List ByteArray) (W : World), b2 <= j + 1 -> n2 <= j + 1 -> Own W w.heap.size T_string 1 p2 n2 k2 (ps2.map Value.string) -> Ext w W -> ps2.map (·.data.toList) ++ cuts c ((l.take (j + 1)).drop b2) (l.drop (j + 1)) = cuts c [] l -> ∀ R, spec_CutAt_j0 wr Inv mu p n k (b : Int) (j : Int) p2 n2 k2 (b2 : Int) W R := by
      intro p2 n2 k2 b2 ps2 W h1 h2 h3 h4 h5 R
      unfold spec_CutAt_j0
      exact exW ⟨by omega, by omega⟩ ⟨(hI _ _ _ _ _ _).2 ⟨j + 1, b2, ps2, rfl, by omega, rfl, h1, h2, h3, h4, h5⟩, by rw [hmu, hmu]; omega⟩
    refine ⟨fun p2 n2 k2 f2 kk W => p2 = p /\ n2 = n /\ k2 = k /\ f2 = b /\ Ext wr W /\ (kk = 0 ∨ kk = 1 /\ l[j] ≠ c), fun _ _ _ _ kk _ => 2 - kk.toNat, ⟨rfl, rfl, rfl, rfl, Ext.refl _, .inl rfl⟩, ?_⟩
    rintro junk2 W p2 n2 k2 f2 kk ⟨rfl, rfl, rfl, rfl, hX, hk⟩
    have hoW := ho.ext hX
    have hxW := hx.trans hX
    refine ifD (fun hk1 => ?_) (fun hk1 => ?_)
    · have hk0 : kk = 0 := by
        rcases hk with h | h
        · exact h
        · have hk1' : kk < (((⟨#[c]⟩ : ByteArray).size : Nat) : Int) := hk1
          have : (((⟨#[c]⟩ : ByteArray).size : Nat) : Int) = 1 := rfl
          omega
      subst hk0
      refine ⟨by omega, l[j]'hjl, by subst hl; exact ba_get hjl, by omega, c, rfl, ifD (fun heq => ?_) (fun hne => ?_)⟩
      · have hc : l[j]'hjl = c := UInt8.toNat_inj.1 (by exact_mod_cast heq)
        rw [if_pos hc] at hcut
        refine ⟨⟨by omega, by omega⟩, ⟨by omega, by omega⟩, ?_⟩
        intro r1 w3 hn3
        have D := Ext.drew W
        have l3 := (D.trans hn3.ext).le
        obtain ⟨p', k', w4, ha, ho4, ch, _⟩ := (hoW.ext (D.trans hn3.ext)).push1 (P := P) sliceT_cutS (by have := hX.le; omega) hn3.blk rfl (by simp [Value.oneCell']) (by omega) (by decide)
        refine ⟨p', _, k', w4, ha, exW ⟨by omega, by omega⟩ ?_⟩
        have := next p' (n2 + 1) k' (j + 1) (ps ++ [s.extract b j]) w4 (by omega) (by omega) (by rw [List.map_append]; exact ho4) ((hxW.trans (D.trans hn3.ext)).chg ch fun q hq => (World.ownsRow.lt hoW q (by cases p2 <;> simp_all [Value.ownBlock])).1) (by
          rw [List.map_append, List.append_assoc, <- hcut, List.drop_take_self]
          show _ ++ ([(s.extract b j).data.toList] ++ _) = _
          rw [ext]; rfl)
        exact this _
      · have hc : l[j]'hjl ≠ c := fun h => hne (by rw [h])
        exact exW ⟨by omega, by omega⟩ ⟨⟨rfl, rfl, rfl, rfl, hX.trans (Ext.drew W), .inr ⟨by omega, hc⟩⟩, by show 2 - ((0 : Int) + 1).toNat < 2 - (0 : Int).toNat; decide⟩
    · have hc : l[j]'hjl ≠ c := by
        rcases hk with h | h
        · exfalso
          have : ¬ kk < (((⟨#[c]⟩ : ByteArray).size : Nat) : Int) := hk1
          have h2 : (((⟨#[c]⟩ : ByteArray).size : Nat) : Int) = 1 := rfl
          omega
        · exact h.2
      rw [if_neg hc, <- take_drop_snoc hbj hjl] at hcut
      exact next p2 n2 k2 b ps W (by omega) (by omega) hoW hxW hcut _
  · have hjn : j = l.length := by omega
    rw [hjn, List.drop_length, cuts] at hcut
    refine ⟨⟨by omega, by omega⟩, ?_⟩
    intro r1 w3 hn3
    have l3 := hn3.ext.le
    obtain ⟨p', k', w4, ha, ho4, ch, _⟩ := (ho.ext hn3.ext).push1 (P := P) sliceT_cutS (by omega) hn3.blk rfl (by simp [Value.oneCell']) (by omega) (by decide)
    refine ⟨p', _, k', w4, ha, p', n + 1, k', ps ++ [s.extract b s.size], rfl, by rw [List.map_append]; exact ho4, ?_, (hx.trans hn3.ext).chg ch fun q hq => (World.ownsRow.lt ho q (by cases p <;> simp_all [Value.ownBlock])).1⟩
    rw [List.map_append, hl, <- hcut]
    show _ ++ [(s.extract b s.size).data.toList] = _
    rw [ext, hsl]
theorem spec_CutAt_c {w : World} (s : ByteArray) (c : UInt8) (hs : s.size <= 1048576) : Ret P n_spec_CutAt [.string s, .string ⟨#[c]⟩] w fun v w' => ∃ p n k ps, v = .slice p n k /\ StrsR w' p n k ps /\ ps.map (·.data.toList) = cuts c [] s.data.toList /\ Ext w w' :=
  (spec_CutAt_o s c hs).mono fun v w' ⟨p, n, k, ps, h1, h2, h3, h4⟩ => ⟨p, n, k, ps, h1, own_strs h2, h3, h4⟩
end Go.Proofs.YtgbknjdjbahdkaaGreatDoor
namespace Go.Proofs.YtgbknjdjbahdkaaGreatDoor
open Go Go.Shelf
def ren172 : Ren := ⟨fun x => match x with | 172 => 83 | 244 => 120 | 245 => 121 | 247 => 150 | 279 => 151 | 280 => 152 | 281 => 153 | 282 => 154 | 287 => 172 | 316 => 173 | 171 => 84 | 205 => 174 | 321 => 189 | 322 => 190 | 243 => 122 | 246 => 155 | 283 => 175 | 284 => 176 | 285 => 177 | 286 => 178 | 129 => 192 | 317 => 191 | 318 => 193 | 319 => 194 | 320 => 195 | 337 => 209 | 338 => 210 | n => n, fun x => match x with | 9 => 9 | 3 => 3 | 75 => 109 | 76 => 110 | 4 => 4 | 5 => 5 | 167 => 154 | 37 => 28 | 0 => 0 | 85 => 155 | 2 => 2 | 168 => 157 | 53 => 86 | 175 => 168 | 46 => 137 | 210 => 172 | 127 => 163 | 145 => 195 | 143 => 193 | 21 => 21 | 171 => 174 | 173 => 177 | 212 => 198 | 51 => 199 | 20 => 20 | 213 => 200 | 232 => 207 | 233 => 208 | 80 => 144 | n => n, fun x => match x with | 15 => 2 | 16 => 3 | 17 => 4 | 18 => 5 | 19 => 6 | n => n⟩
theorem lays172 : LaysC.n172 Tryz.prog ren172 := {
  mixed := by kernel_rfl,
  f129 := Tryz.func192.trans (congrArg some (by kernel_rfl)),
  f171 := Tryz.func84.trans (congrArg some (by kernel_rfl)),
  f172 := Tryz.func83.trans (congrArg some (by kernel_rfl)),
  f205 := Tryz.func174.trans (congrArg some (by kernel_rfl)),
  f243 := Tryz.func122.trans (congrArg some (by kernel_rfl)),
  f244 := Tryz.func120.trans (congrArg some (by kernel_rfl)),
  f245 := Tryz.func121.trans (congrArg some (by kernel_rfl)),
  f246 := Tryz.func155.trans (congrArg some (by kernel_rfl)),
  f247 := Tryz.func150.trans (congrArg some (by kernel_rfl)),
  f279 := Tryz.func151.trans (congrArg some (by kernel_rfl)),
  f280 := Tryz.func152.trans (congrArg some (by kernel_rfl)),
  f281 := Tryz.func153.trans (congrArg some (by kernel_rfl)),
  f282 := Tryz.func154.trans (congrArg some (by kernel_rfl)),
  f283 := Tryz.func175.trans (congrArg some (by kernel_rfl)),
  f284 := Tryz.func176.trans (congrArg some (by kernel_rfl)),
  f285 := Tryz.func177.trans (congrArg some (by kernel_rfl)),
  f286 := Tryz.func178.trans (congrArg some (by kernel_rfl)),
  f287 := Tryz.func172.trans (congrArg some (by kernel_rfl)),
  f316 := Tryz.func173.trans (congrArg some (by kernel_rfl)),
  f317 := Tryz.func191.trans (congrArg some (by kernel_rfl)),
  f318 := Tryz.func193.trans (congrArg some (by kernel_rfl)),
  f319 := Tryz.func194.trans (congrArg some (by kernel_rfl)),
  f320 := Tryz.func195.trans (congrArg some (by kernel_rfl)),
  f321 := Tryz.func189.trans (congrArg some (by kernel_rfl)),
  f322 := Tryz.func190.trans (congrArg some (by kernel_rfl)),
  f337 := Tryz.func209.trans (congrArg some (by kernel_rfl)),
  f338 := Tryz.func210.trans (congrArg some (by kernel_rfl)),
  t0 := Tryz.underlying0,
  a0 := Tryz.isAgg0,
  z0 := Tryz.sizeOf0,
  v0 := Tryz.zeroValue0,
  t2 := Tryz.underlying2,
  a2 := Tryz.isAgg2,
  z2 := Tryz.sizeOf2,
  v2 := Tryz.zeroValue2,
  t3 := Tryz.underlying3,
  a3 := Tryz.isAgg3,
  z3 := Tryz.sizeOf3,
  v3 := Tryz.zeroValue3,
  t4 := Tryz.underlying4,
  a4 := Tryz.isAgg4,
  z4 := Tryz.sizeOf4,
  v4 := Tryz.zeroValue4,
  t5 := Tryz.underlying5,
  a5 := Tryz.isAgg5,
  z5 := Tryz.sizeOf5,
  v5 := Tryz.zeroValue5,
  t9 := Tryz.underlying9,
  a9 := Tryz.isAgg9,
  z9 := Tryz.sizeOf9,
  v9 := Tryz.zeroValue9,
  t20 := Tryz.underlying20,
  a20 := Tryz.isAgg20,
  z20 := Tryz.sizeOf20,
  v20 := Tryz.zeroValue20,
  t21 := Tryz.underlying21,
  a21 := Tryz.isAgg21,
  z21 := Tryz.sizeOf21,
  v21 := Tryz.zeroValue21,
  t37 := Tryz.underlying28,
  a37 := Tryz.isAgg28,
  z37 := Tryz.sizeOf28,
  v37 := Tryz.zeroValue28,
  t46 := Tryz.underlying137,
  a46 := Tryz.isAgg137,
  z46 := Tryz.sizeOf137,
  v46 := Tryz.zeroValue137,
  t51 := Tryz.underlying199,
  a51 := Tryz.isAgg199,
  z51 := Tryz.sizeOf199,
  v51 := Tryz.zeroValue199,
  t53 := Tryz.underlying86,
  a53 := Tryz.isAgg86,
  z53 := Tryz.sizeOf86,
  v53 := Tryz.zeroValue86,
  t75 := Tryz.underlying109,
  a75 := Tryz.isAgg109,
  z75 := Tryz.sizeOf109,
  v75 := Tryz.zeroValue109,
  t76 := Tryz.underlying110,
  a76 := Tryz.isAgg110,
  z76 := Tryz.sizeOf110,
  v76 := Tryz.zeroValue110,
  t85 := Tryz.underlying155,
  a85 := Tryz.isAgg155,
  z85 := Tryz.sizeOf155,
  v85 := Tryz.zeroValue155,
  t127 := Tryz.underlying163,
  a127 := Tryz.isAgg163,
  z127 := Tryz.sizeOf163,
  v127 := Tryz.zeroValue163,
  t143 := Tryz.underlying193,
  a143 := Tryz.isAgg193,
  z143 := Tryz.sizeOf193,
  v143 := Tryz.zeroValue193,
  t145 := Tryz.underlying195,
  a145 := Tryz.isAgg195,
  z145 := Tryz.sizeOf195,
  v145 := Tryz.zeroValue195,
  t167 := Tryz.underlying154,
  a167 := Tryz.isAgg154,
  z167 := Tryz.sizeOf154,
  v167 := Tryz.zeroValue154,
  t168 := Tryz.underlying157,
  a168 := Tryz.isAgg157,
  z168 := Tryz.sizeOf157,
  v168 := Tryz.zeroValue157,
  t171 := Tryz.underlying174,
  a171 := Tryz.isAgg174,
  z171 := Tryz.sizeOf174,
  v171 := Tryz.zeroValue174,
  t173 := Tryz.underlying177,
  a173 := Tryz.isAgg177,
  z173 := Tryz.sizeOf177,
  v173 := Tryz.zeroValue177,
  t175 := Tryz.underlying168,
  a175 := Tryz.isAgg168,
  z175 := Tryz.sizeOf168,
  v175 := Tryz.zeroValue168,
  t210 := Tryz.underlying172,
  a210 := Tryz.isAgg172,
  z210 := Tryz.sizeOf172,
  v210 := Tryz.zeroValue172,
  t212 := Tryz.underlying198,
  a212 := Tryz.isAgg198,
  z212 := Tryz.sizeOf198,
  v212 := Tryz.zeroValue198,
  t213 := Tryz.underlying200,
  a213 := Tryz.isAgg200,
  z213 := Tryz.sizeOf200,
  t232 := Tryz.underlying207,
  a232 := Tryz.isAgg207,
  z232 := Tryz.sizeOf207,
  v232 := Tryz.zeroValue207,
  t233 := Tryz.underlying208,
  a233 := Tryz.isAgg208,
  z233 := Tryz.sizeOf208,
  v233 := Tryz.zeroValue208,
  g15 := by kernel_rfl,
  g16 := by kernel_rfl,
  g17 := by kernel_rfl,
  g18 := by kernel_rfl,
  g19 := by kernel_rfl,
  t80 := Tryz.underlying144,
  a80 := Tryz.isAgg144,
  z80 := Tryz.sizeOf144,
  v80 := Tryz.zeroValue144,
  i0 := by kernel_rfl,
  i2 := by kernel_rfl,
  i3 := by kernel_rfl,
  i4 := by kernel_rfl,
  i5 := by kernel_rfl,
  i9 := by kernel_rfl,
  i20 := by kernel_rfl,
  i21 := by kernel_rfl,
  i37 := by kernel_rfl,
  i46 := by kernel_rfl,
  i51 := by kernel_rfl,
  i53 := by kernel_rfl,
  i75 := by kernel_rfl,
  i76 := by kernel_rfl,
  i80 := by kernel_rfl,
  i85 := by kernel_rfl,
  i127 := by kernel_rfl,
  i143 := by kernel_rfl,
  i145 := by kernel_rfl,
  i167 := by kernel_rfl,
  i168 := by kernel_rfl,
  i171 := by kernel_rfl,
  i173 := by kernel_rfl,
  i175 := by kernel_rfl,
  i210 := by kernel_rfl,
  i212 := by kernel_rfl,
  i232 := by kernel_rfl,
  i233 := by kernel_rfl,
  m15 := by kernel_rfl,
  m16 := by kernel_rfl,
  m17 := by kernel_rfl,
  m18 := by kernel_rfl,
  m19 := by kernel_rfl,
  c0 := by kernel_rfl,
  c2 := by kernel_rfl,
  c3 := by kernel_rfl,
  c4 := by kernel_rfl,
  c5 := by kernel_rfl,
  c9 := by kernel_rfl,
  c20 := by kernel_rfl,
  c21 := by kernel_rfl,
  c37 := by kernel_rfl,
  c46 := by kernel_rfl,
  c51 := by kernel_rfl,
  c53 := by kernel_rfl,
  c75 := by kernel_rfl,
  c76 := by kernel_rfl,
  c80 := by kernel_rfl,
  c85 := by kernel_rfl,
  c127 := by kernel_rfl,
  c143 := by kernel_rfl,
  c145 := by kernel_rfl,
  c167 := by kernel_rfl,
  c168 := by kernel_rfl,
  c171 := by kernel_rfl,
  c173 := by kernel_rfl,
  c175 := by kernel_rfl,
  c210 := by kernel_rfl,
  c212 := by kernel_rfl,
  c213 := by kernel_rfl,
  c232 := by kernel_rfl,
  c233 := by kernel_rfl }
end Go.Proofs.YtgbknjdjbahdkaaGreatDoor
namespace Go.Proofs.YtgbknjdjbahdkaaGreatDoor
open Go Go.Proofs.YtgbknjdjbahdkaaGreatDoor.Sx
def TabE (w : World) : Prop := ∃ e1 e2 : Value, w.cell? ⟨ren172.g 15, 0, none⟩ = some e1 /\ (e1 = .nilIface ∨ ∃ te pe, e1 = .iface te pe) /\ w.cell? ⟨ren172.g 16, 0, none⟩ = some e2 /\ (e2 = .nilIface ∨ ∃ te pe, e2 = .iface te pe)
theorem cell_ext {w w' : World} (y : Ext w w') {a : Addr} {v : Value} (h : w.cell? a = some v) : w'.cell? a = some v := by
  have hlt := Lib.lt_of_cell h
  unfold World.cell? at h ⊢
  rw [y.block _ hlt]; exact h
theorem TabE.ext {w w' : World} (h : TabE w) (y : Ext w w') : TabE w' := by
  obtain ⟨e1, e2, a, b, c, d⟩ := h
  exact ⟨e1, e2, cell_ext y a, b, cell_ext y c, d⟩
theorem impl_TextInt_ok {w : World} {s : ByteArray} (hs : s.size <= 1048576) (hp : TabP w) {v : Int} (hv : Lib.atoiAll s.data.toList = .ok v) :
    Ret P n_impl_TextInt [.string s] w fun x w' => x = .tuple #[.int .i64 ((tiV s).getD 0), .bool (tiV s).isSome] /\ Ext w w' := by
  have hb := Lib.atoiAll_bounds hv
  refine impl_TextInt_ret ?_
  unfold impl_TextInt
  refine (Any.strconv_Atoi_ok lays172 s (by omega) v hv w).mono ?_
  rintro e w1 ⟨rfl, hw⟩
  have y1 : Ext w w1 := by
    rcases hw with rfl | ⟨t, rfl⟩
    · exact Ext.refl _
    · exact Lib.bytesWorld_below _ _ _
  refine ⟨_, _, rfl, .inl rfl, fun e => absurd e (by decide), fun _ => ?_⟩
  have e1 : tiV s = if Lib.itoa v = s.data.toList then some v else none := by unfold tiV; rw [hv]
  refine (Any.strconv_Itoa lays171 v hb.1 (by omega) w1 (hp.ext y1)).mono ?_
  rintro e w2 ⟨rfl, k, os, hw2⟩
  have y2 : Ext w1 w2 := by rw [hw2]; exact Lib.below_grow _ _ (Nat.le_refl _) _ _
  have hit : (⟨(Lib.itoa v).toArray⟩ : ByteArray) = s ↔ Lib.itoa v = s.data.toList := ⟨fun h => by rw [<- h], fun h => ba_ext (by simpa using h)⟩
  refine ⟨_, rfl, fun h => ⟨?_, y1.trans y2⟩, fun h => ⟨?_, y1.trans y2⟩⟩
  · have hne := of_decide_eq_true h
    rw [e1, if_neg (fun hh => hne (hit.2 hh))]; rfl
  · have heq := of_decide_eq_false h
    rw [e1, if_pos (hit.1 (Classical.not_not.1 heq))]; rfl
theorem impl_TextInt_c {w : World} (s : ByteArray) (hs : s.size <= 1048576) (hp : TabP w) (he : TabE w) :
    Ret P n_impl_TextInt [.string s] w fun x w' => x = .tuple #[.int .i64 ((tiV s).getD 0), .bool (tiV s).isSome] /\ Ext w w' := by
  obtain ⟨v1, v2, c1, k1, c2, k2⟩ := he
  rcases hv : Lib.atoiAll s.data.toList with v | _ | _
  · exact impl_TextInt_ok hs hp hv
  · have e1 : tiV s = none := by unfold tiV; rw [hv]
    refine impl_TextInt_ret ?_
    unfold impl_TextInt
    refine (Any.strconv_Atoi_syntax lays172 s (by omega) hv v1 w c1 k1).mono ?_
    rintro e w1 ⟨N, rfl, _, _, hb⟩
    refine ⟨_, _, rfl, .inr ⟨_, _, rfl⟩, fun _ => ⟨fun _ => ⟨by rw [e1]; rfl, hb⟩, fun e => absurd e (by simp)⟩, fun e => absurd e (by simp [ifNil])⟩
  · have e1 : tiV s = none := by unfold tiV; rw [hv]
    refine impl_TextInt_ret ?_
    unfold impl_TextInt
    refine (Any.strconv_Atoi_range lays172 s (by omega) hv v2 w c2 k2).mono ?_
    rintro e w1 ⟨N, rfl, _, _, hb⟩
    refine ⟨_, _, rfl, .inr ⟨_, _, rfl⟩, fun _ => ⟨fun _ => ⟨by rw [e1]; rfl, hb⟩, fun e => absurd e (by simp)⟩, fun e => absurd e (by simp [ifNil])⟩
end Go.Proofs.YtgbknjdjbahdkaaGreatDoor
namespace Go.Proofs.YtgbknjdjbahdkaaGreatDoor
open Go Go.Proofs.YtgbknjdjbahdkaaGreatDoor.Sx
theorem OwnRows_pushG {P : Program} {w : World} {B : Nat} {t e : TypeId} {z : Value} {k bytes : Nat} {p : Option Addr} {n c r : Nat} {l : List (List D0)} {f fx : List Nat} {cs : List Value} {x : List D0} (h : OwnRows w B e k p n c l f)
    (hT : sliceT P t e z k bytes) (hb : B <= w.heap.size) (hr : Blk w r e cs) (hl : cs.length = k) (ho : Owns w B cs x fx) (hfx : fx.Nodup) (hdis : ∀ q ∈ fx, q ∉ f)
    (hbytes : (n + 1) * bytes <= 140737488355328) (hby : 1 <= bytes) :
    ∃ p' c' w' f', Appends P [t, t] [.slice p n c, .slice (some ⟨r, 0, none⟩) 1 1] (.slice p' (n + 1) c') w w' /\ OwnRows w' B e k p' (n + 1) c' (l ++ [x]) f' /\ Chg (p.map (·.block)).toList w w' /\
      (∀ q ∈ f', q ∈ f ∨ q ∈ fx ∨ w.heap.size <= q) /\ (p'.map (·.block) = p.map (·.block) ∨ ∀ q, p'.map (·.block) = some q -> w.heap.size <= q) := by
  obtain ⟨hln, css, fs, ha, hown, rfl, hnd⟩ := h
  obtain ⟨p', c', w', hrun, hown', hch, hp⟩ := hown.push1 hT hb hr hl ho.reps.cells1 hbytes hby
  have hpl : ∀ q ∈ (p.map (·.block)).toList, B <= q := fun q hq => (World.ownsRow.lt hown q (by cases p <;> simp_all [Value.ownBlock])).1
  have hnd1 := (List.nodup_append.1 hnd)
  have hpin : ∀ q ∈ fs.flatten, q ∉ (p.map (·.block)).toList := fun q hq hm => hnd1.2.2 q hm q hq rfl
  have hpx : ∀ q ∈ fx, q ∉ (p.map (·.block)).toList := fun q hq hm => hdis q hq (List.mem_append_left _ hm)
  have hlt : ∀ q ∈ fs.flatten ++ fx, q < w.heap.size := fun q hq => by
    rcases List.mem_append.1 hq with hq | hq
    · exact (ha.lt q hq).2
    · exact (ho.lt q hq).2
  have e : (fs ++ [fx]).flatten = fs.flatten ++ fx := by simp
  refine ⟨p', c', w', (p'.map (·.block)).toList ++ (fs ++ [fx]).flatten, hrun, ⟨by simp [hln], css ++ [cs], fs ++ [fx], (ha.chg hch hpin).snoc hl (ho.chg hch hpx), by simpa using hown', rfl, ?_⟩, hch, fun q hq => ?_, hp⟩
  rotate_left
  · rw [e] at hq
    rcases List.mem_append.1 hq with hq | hq
    · have hpa := opt_mem hq
      rcases hp with hp | hp
      · rw [hp] at hpa
        exact .inl (List.mem_append_left _ (mem_opt hpa))
      · exact .inr (.inr (hp q hpa))
    · rcases List.mem_append.1 hq with hq | hq
      · exact .inl (List.mem_append_right _ hq)
      · exact .inr (.inl hq)
  rw [e, List.nodup_append]
  refine ⟨by cases p' <;> simp, ?_, ?_⟩
  · rw [List.nodup_append]
    exact ⟨hnd1.2.1, hfx, fun a ha b hb e => hdis b hb (by rw [<- e]; exact List.mem_append_right _ ha)⟩
  · intro a ha b hb hab
    subst hab
    have hpa := opt_mem ha
    rcases hp with hp | hp
    · rw [hp] at hpa
      have ham : a ∈ (p.map (·.block)).toList := mem_opt hpa
      rcases List.mem_append.1 hb with hb | hb
      · exact hpin a hb ham
      · exact hpx a hb ham
    · have := hp a hpa
      have := hlt a hb
      omega
theorem OwnRows_pushF {P : Program} {w : World} {B : Nat} {t e : TypeId} {z : Value} {k bytes : Nat} {p : Option Addr} {n c r : Nat} {l : List (List D0)} {f fx : List Nat} {cs : List Value} {x : List D0} (h : OwnRows w B e k p n c l f)
    (hT : sliceT P t e z k bytes) (hb : B <= w.heap.size) (hr : Blk w r e cs) (hl : cs.length = k) (ho : Owns w B cs x fx) (hfx : fx.Nodup) (hdis : ∀ q ∈ fx, q ∉ f)
    (hbytes : (n + 1) * bytes <= 140737488355328) (hby : 1 <= bytes) :
    ∃ p' c' w' f', Appends P [t, t] [.slice p n c, .slice (some ⟨r, 0, none⟩) 1 1] (.slice p' (n + 1) c') w w' /\ OwnRows w' B e k p' (n + 1) c' (l ++ [x]) f' /\ Chg (p.map (·.block)).toList w w' /\
      (∀ q ∈ f', q ∈ f ∨ q ∈ fx ∨ w.heap.size <= q) := by
  obtain ⟨p', c', w', f', h1, h2, h3, h4, _⟩ := OwnRows_pushG h hT hb hr hl ho hfx hdis hbytes hby
  exact ⟨p', c', w', f', h1, h2, h3, h4⟩
end Go.Proofs.YtgbknjdjbahdkaaGreatDoor
namespace Go.Proofs.YtgbknjdjbahdkaaGreatDoor
open Go Go.Proofs.YtgbknjdjbahdkaaGreatDoor.Sx
theorem Sx.OwnRows.blk_mem {w : World} {B : Nat} {e : TypeId} {k : Nat} {p : Option Addr} {n c : Nat} {l : List (List D0)} {f : List Nat} (h : OwnRows w B e k p n c l f) : ∀ q ∈ (p.map (·.block)).toList, q ∈ f := by
  obtain ⟨_, css, fs, _, _, rfl, _⟩ := h
  exact fun q hq => List.mem_append_left _ hq
theorem cntL_le {l : List (List D0)} {k : Int} (h : ∀ x ∈ l, cnts x <= k) : cntL l <= l.length * k := by
  induction l with
  | nil => simp [cntL]
  | cons a r ih =>
    have h1 := h a List.mem_cons_self
    have h2 := ih fun x hx => h x (List.mem_cons_of_mem _ hx)
    show cnts a + cntL r <= _
    rw [List.length_cons, Int.natCast_add, Int.add_mul]
    omega
end Go.Proofs.YtgbknjdjbahdkaaGreatDoor
namespace Go.Proofs.YtgbknjdjbahdkaaGreatDoor
open Go Go.Proofs.YtgbknjdjbahdkaaGreatDoor.Sx
set_option maxHeartbeats 1000000
theorem sliceT_step : sliceT P T_s_impl_Step T_impl_Step (.agg ⟨[.int .i64 0, .bool false, .slice none 0 0, .int .i64 0]⟩) 4 48 := ⟨by kernel_rfl, by kernel_rfl, rfl, by decide⟩
theorem part_size {s p : ByteArray} {c : UInt8} (h : p.data.toList ∈ cuts c [] s.data.toList) : p.size <= s.size := by
  have := cuts_le s.data.toList [] _ h
  rw [ba_size, ba_size]
  simpa using this
theorem impl_TextSteps_o {w : World} (s : ByteArray) (hs : s.size <= 1048576) (hp : TabP w) (he : TabE w) :
    Ret P n_impl_TextSteps [.string s] w fun v w' => ∃ p n c f, v = .tuple #[.slice p n c, .bool (tsV s).isSome] /\ OwnRows w' w.heap.size T_impl_Step 4 p n c ((tsV s).getD []) f /\ Ext w w' := by
  refine impl_TextSteps_ret ?_
  unfold impl_TextSteps
  intro r w1 hn1
  have e1 := hn1.r_eq; have s1 := hn1.size
  refine Ret.at (impl_CutAt_o s 44 hs) ?_
  rintro v w2 ⟨cp, cn, cc, ps, rfl, hS, hps, y2⟩
  have hpl : ps.length = cn := by have := hS.len; simpa using this
  have hcn : (cuts 44 [] s.data.toList).length = cn := by rw [<- hps, List.length_map]; exact hpl
  have hcl : cn <= 1048577 := by
    rw [<- hcn, cuts_len]
    have : s.data.toList.count 44 <= s.data.toList.length := List.count_le_length
    rw [<- ba_size] at this
    omega
  have no : tsV s = none -> ∀ W, Ext w W -> ∃ p n c f, Value.tuple #[.slice none 0 0, .bool false] = .tuple #[.slice p n c, .bool (tsV s).isSome] /\ OwnRows W w.heap.size T_impl_Step 4 p n c ((tsV s).getD []) f /\ Ext w W := fun h W hW => by
    rw [h]
    exact ⟨none, 0, 0, [], rfl, ⟨rfl, [], [], trivial, Own.nil _ _ _ _, by simp, by simp⟩, hW⟩
  have l2 := y2.le
  have clt : ∀ q, cp.map (·.block) = some q -> w1.heap.size <= q /\ q < w2.heap.size := fun q hq => World.ownsRow.lt hS q (by rw [<- hq]; cases cp <;> rfl)
  refine ⟨_, _, _, rfl, fun lp ln lc i W => ∃ (j : Nat) (xs : List (List D0)) (f : List Nat), i = j /\ j <= cn /\ OwnRows W w.heap.size T_impl_Step 4 lp ln lc xs f /\ stL ((cuts 44 [] s.data.toList).take j) = some xs /\ Own W w1.heap.size T_string 1 cp cn cc (ps.map Value.string) /\ (∀ q, cp.map (·.block) = some q -> q ∉ f) /\ Ext w W /\ w2.heap.size <= W.heap.size, fun _ _ _ i _ => cn - i.toNat,
    ⟨0, [], [r], rfl, by omega, (OwnRows.fresh hn1 (Nat.le_refl _)).ext y2, rfl, hS, fun q hq hm => by have := clt q hq; have := List.mem_singleton.1 hm; omega, hn1.ext.trans y2, Nat.le_refl _⟩, ?_⟩
  rintro junk W lp ln lc i ⟨j, xs, f, rfl, hj, hO, hst, hC, hcf, hX, hW2⟩
  have hln : xs.length = ln := hO.rows.1
  have hxj : xs.length = j := by rw [stL_len hst, List.length_take, hcn]; omega
  refine ifD (fun hlt => ?_) (fun hge => ?_)
  · have hjc : j < cn := by omega
    have hjp : j < ps.length := by omega
    have hjq : j < (cuts 44 [] s.data.toList).length := by omega
    have hpj : (ps[j]).data.toList = (cuts 44 [] s.data.toList)[j] := by
      have h5 : (ps.map (fun x : ByteArray => x.data.toList))[j]'(by simpa using hjp) = (cuts 44 [] s.data.toList)[j] := by simp only [hps]
      simpa using h5
    have hmem : (ps[j]).data.toList ∈ cuts 44 [] s.data.toList := hpj ▸ List.getElem_mem hjq
    have hbad : stR (ps[j]).data.toList = none -> tsV s = none := fun h => tsV_bad hmem h
    obtain ⟨ad, hcp, hld⟩ := (own_strs hC).at (P := P) (t := T_string) (by kernel_rfl) hjc
    subst hcp
    have hsz := part_size hmem
    refine ⟨⟨by omega, by omega⟩, ps[j], by rw [Int.toNat_natCast]; exact hld, ?_⟩
    refine Ret.at (impl_CutAt_c ps[j] 58 (by omega)) ?_
    rintro v w3 ⟨qp, qn, qc, ps2, rfl, hS2, hps2, y3⟩
    have X3 := hX.trans y3
    have hqn : (cuts 58 [] (ps[j]).data.toList).length = qn := by rw [<- hps2, List.length_map]; exact hS2.1
    refine ⟨_, _, _, rfl, ifD (fun hne => ⟨fun _ => no (hbad (stR_len (by rw [hqn]; omega))) _ X3, fun e => absurd e (by simp)⟩) (fun heq => ifD (fun h8 => no (tsV_many (by rw [hcn]; omega)) _ X3) (fun h8 => ?_))⟩
    have hq2 : qn = 2 := by omega
    subst hq2
    unfold impl_TextSteps_j0
    match ps2, hS2, hps2 with
    | [s1', s2'], hS2, hps2 =>
      have hcut : cuts 58 [] (ps[j]).data.toList = [s1'.data.toList, s2'.data.toList] := hps2.symm
      obtain ⟨ad2, hqp, hld0⟩ := hS2.at (P := P) (t := T_string) (k := 0) (by kernel_rfl) (by omega)
      obtain ⟨ad3, hqp3, hld1⟩ := hS2.at (P := P) (t := T_string) (k := 1) (by kernel_rfl) (by omega)
      subst hqp
      cases hqp3
      have z1 : s1'.size <= (ps[j]).size := part_size (by rw [hcut]; simp)
      have z2 : s2'.size <= (ps[j]).size := part_size (by rw [hcut]; simp)
      refine ⟨⟨by omega, by omega⟩, s1', hld0, ?_⟩
      refine Ret.at (impl_TextInt_c s1' (by omega) (hp.ext X3) (he.ext X3)) ?_
      rintro v w4 ⟨rfl, y4⟩
      have X4 := X3.trans y4
      obtain ⟨_, hq3, hld1'⟩ := (hS2.ext y4).at (P := P) (t := T_string) (k := 1) (by kernel_rfl) (by omega)
      cases hq3
      refine ⟨_, _, rfl, ⟨by omega, by omega⟩, s2', hld1', ?_⟩
      refine Ret.at (impl_TextPercent_c s2' (by omega) (hp.ext X4)) ?_
      rintro v w5 ⟨vs5, f5, rfl, o5, nd5, c5, _, y5⟩
      have r5 := o5.reps
      have r5c := r5
      obtain ⟨g0, gp, gn, gc, gz, g2, rfl, _, _⟩ := open_Dec r5 c5
      refine ⟨_, _, _, _, _, _, rfl, ?_⟩
      intro r1 w6 hn6
      obtain ⟨w7, st7, b7, y7⟩ := hn6.fill (P := P) (t := T_impl_Dec) r5c.cells1 (by kernel_rfl) rfl
      have X7 := (X4.trans y5).trans y7
      have hno1 : tiV s1' = none -> tsV s = none := fun h => hbad (stR_no hcut (.inl (by rw [BA_eq]; exact h)))
      have hno2 : tpOk s2' = false -> tsV s = none := fun h => hbad (stR_no hcut (.inr (by rw [BA_eq]; exact h)))
      refine ⟨w7, st7, fun h1 => ⟨fun _ => no (hno1 ?_) _ X7, fun e => absurd e (by simp)⟩, fun h1 => ⟨fun h2 => no (hno2 (by cases hh : tpOk s2' <;> simp_all)) _ X7, fun h2 => ?_⟩⟩
      · cases hh : tiV s1' with
        | none => rfl
        | some v => rw [hh] at h1; simp at h1
      · have ht : tpOk s2' = true := by cases hh : tpOk s2' <;> simp_all
        obtain ⟨nv, hnv⟩ : ∃ nv, tiV s1' = some nv := by
          cases hh : tiV s1' with
          | none => rw [hh] at h1; simp at h1
          | some v => exact ⟨v, rfl⟩
        rw [hnv]
        refine ⟨_, _, _, _, _, b7.loadA0 (by kernel_rfl), ?_⟩
        intro r3 w8 hn8
        have e8 := hn8.r_eq; have s8 := hn8.size
        have l3 := y3.le; have l4 := y4.le; have l5 := y5.le; have l7 := y7.le; have lX := hX.le
        have f5lt := o5.lt
        have hOlt := hO.lt
        have Y8 := ((y3.trans y4).trans (y5.trans (y7.trans hn8.ext)))
        have row : Owns w8 w.heap.size [.int .i64 nv, .bool g0, .slice gp gn gc, .int .i64 g2] (.int nv :: tpR s2') f5 := by
          have := Owns.append (Owns.int w8 w.heap.size nv) ((o5.ext (y7.trans hn8.ext)).mono (B' := w.heap.size) (by omega))
          simpa using this
        obtain ⟨p', c', w9, f', ap9, hO9, ch9, hf'⟩ := OwnRows_pushF (hO.ext Y8) sliceT_step (by omega) hn8.blk rfl row nd5 (fun q hq hm => by have := f5lt q hq; have := hOlt q hm; omega) (by omega) (by decide)
        have pbf : ∀ x ∈ (lp.map (·.block)).toList, x ∈ f := hO.blk_mem
        have hxr : stR (ps[j]).data.toList = some (.int nv :: tpR s2') := by
          have := stR_make (p := (ps[j]).data.toList) hcut (n := nv) (by rw [BA_eq]; exact hnv) (by rw [BA_eq]; exact ht)
          rw [BA_eq] at this; exact this
        have z9 := ch9.size
        refine ⟨p', _, c', w9, ap9, exW ⟨by omega, by omega⟩ ⟨⟨j + 1, xs ++ [.int nv :: tpR s2'], f', by omega, by omega, hO9, ?_, (hC.ext Y8).chg ch9 (fun q hq hm => hcf q hq (pbf q hm)), fun q hq hm => ?_, (hX.trans Y8).chg ch9 (fun q hq => (hOlt q (pbf q hq)).1), by omega⟩, by show cn - ((j : Int) + 1).toNat < cn - (j : Int).toNat; omega⟩⟩
        · rw [List.take_succ_eq_append_getElem hjq, <- hpj]
          exact stL_snoc hst hxr
        · have hq2 := clt q hq
          rcases hf' q hm with h | h | h
          · exact hcf q hq h
          · have := f5lt q h; omega
          · omega
  · have hjn : j = cn := by omega
    have hall : stL (cuts 44 [] s.data.toList) = some xs := by
      rw [List.take_of_length_le (by omega)] at hst
      exact hst
    refine Ret.at (impl_StepsOk_c hO.rows (stL_code hall)) ?_
    rintro v w3 ⟨rfl, y3⟩
    have hend := tsV_end hall
    refine ⟨_, rfl, fun hb => no (by rw [hend, if_neg (by simpa using hb)]) _ (hX.trans y3), fun hb => ?_⟩
    have hok : stepsOk xs = true := by simpa using hb
    rw [hend, if_pos hok]
    exact ⟨_, _, _, f, rfl, hO.ext y3, hX.trans y3⟩
end Go.Proofs.YtgbknjdjbahdkaaGreatDoor
namespace Go.Proofs.YtgbknjdjbahdkaaGreatDoor
open Go Go.Proofs.YtgbknjdjbahdkaaGreatDoor.Sx
set_option maxHeartbeats 1000000
theorem spec_TextSteps_o {w : World} (s : ByteArray) (hs : s.size <= 1048576) :
    Ret P n_spec_TextSteps [.string s] w fun v w' => ∃ p n c f, v = .tuple #[.slice p n c, .bool (tsV s).isSome] /\ OwnRows w' w.heap.size T_impl_Step 4 p n c ((tsV s).getD []) f /\ Ext w w' := by
  refine spec_TextSteps_ret ?_
  unfold spec_TextSteps
  intro r w1 hn1
  have e1 := hn1.r_eq; have s1 := hn1.size
  refine Ret.at (spec_CutAt_o s 44 hs) ?_
  rintro v w2 ⟨cp, cn, cc, ps, rfl, hS, hps, y2⟩
  have hpl : ps.length = cn := by have := hS.len; simpa using this
  have hcn : (cuts 44 [] s.data.toList).length = cn := by rw [<- hps, List.length_map]; exact hpl
  have hcl : cn <= 1048577 := by
    rw [<- hcn, cuts_len]
    have : s.data.toList.count 44 <= s.data.toList.length := List.count_le_length
    rw [<- ba_size] at this
    omega
  have no : tsV s = none -> ∀ W, Ext w W -> ∃ p n c f, Value.tuple #[.slice none 0 0, .bool false] = .tuple #[.slice p n c, .bool (tsV s).isSome] /\ OwnRows W w.heap.size T_impl_Step 4 p n c ((tsV s).getD []) f /\ Ext w W := fun h W hW => by
    rw [h]
    exact ⟨none, 0, 0, [], rfl, ⟨rfl, [], [], trivial, Own.nil _ _ _ _, by simp, by simp⟩, hW⟩
  have l2 := y2.le
  have clt : ∀ q, cp.map (·.block) = some q -> w1.heap.size <= q /\ q < w2.heap.size := fun q hq => World.ownsRow.lt hS q (by rw [<- hq]; cases cp <;> rfl)
  refine ⟨_, _, _, rfl, fun lp ln lc i W => ∃ (j : Nat) (xs : List (List D0)) (f : List Nat), i = j /\ j <= cn /\ OwnRows W w.heap.size T_impl_Step 4 lp ln lc xs f /\ stL ((cuts 44 [] s.data.toList).take j) = some xs /\ Own W w1.heap.size T_string 1 cp cn cc (ps.map Value.string) /\ (∀ q, cp.map (·.block) = some q -> q ∉ f) /\ Ext w W /\ w2.heap.size <= W.heap.size, fun _ _ _ i _ => cn - i.toNat,
    ⟨0, [], [r], rfl, by omega, (OwnRows.fresh hn1 (Nat.le_refl _)).ext y2, rfl, hS, fun q hq hm => by have := clt q hq; have := List.mem_singleton.1 hm; omega, hn1.ext.trans y2, Nat.le_refl _⟩, ?_⟩
  rintro junk W lp ln lc i ⟨j, xs, f, rfl, hj, hO, hst, hC, hcf, hX, hW2⟩
  have hln : xs.length = ln := hO.rows.1
  have hxj : xs.length = j := by rw [stL_len hst, List.length_take, hcn]; omega
  refine ifD (fun hlt => ?_) (fun hge => ?_)
  · have hjc : j < cn := by omega
    have hjp : j < ps.length := by omega
    have hjq : j < (cuts 44 [] s.data.toList).length := by omega
    have hpj : (ps[j]).data.toList = (cuts 44 [] s.data.toList)[j] := by
      have h5 : (ps.map (fun x : ByteArray => x.data.toList))[j]'(by simpa using hjp) = (cuts 44 [] s.data.toList)[j] := by simp only [hps]
      simpa using h5
    have hmem : (ps[j]).data.toList ∈ cuts 44 [] s.data.toList := hpj ▸ List.getElem_mem hjq
    have hbad : stR (ps[j]).data.toList = none -> tsV s = none := fun h => tsV_bad hmem h
    obtain ⟨ad, hcp, hld⟩ := (own_strs hC).at (P := P) (t := T_string) (by kernel_rfl) hjc
    subst hcp
    have hsz := part_size hmem
    refine ⟨⟨by omega, by omega⟩, ps[j], by rw [Int.toNat_natCast]; exact hld, ?_⟩
    refine Ret.at (spec_CutAt_c ps[j] 58 (by omega)) ?_
    rintro v w3 ⟨qp, qn, qc, ps2, rfl, hS2, hps2, y3⟩
    have X3 := hX.trans y3
    have hqn : (cuts 58 [] (ps[j]).data.toList).length = qn := by rw [<- hps2, List.length_map]; exact hS2.1
    refine ⟨_, _, _, rfl, ifD (fun hne => no (hbad (stR_len (by rw [hqn]; omega))) _ X3) (fun heq => ?_)⟩
    have hq2 : qn = 2 := by omega
    subst hq2
    match ps2, hS2, hps2 with
    | [s1', s2'], hS2, hps2 =>
      have hcut : cuts 58 [] (ps[j]).data.toList = [s1'.data.toList, s2'.data.toList] := hps2.symm
      obtain ⟨ad2, hqp, hld0⟩ := hS2.at (P := P) (t := T_string) (k := 0) (by kernel_rfl) (by omega)
      obtain ⟨ad3, hqp3, hld1⟩ := hS2.at (P := P) (t := T_string) (k := 1) (by kernel_rfl) (by omega)
      subst hqp
      cases hqp3
      have z1 : s1'.size <= (ps[j]).size := part_size (by rw [hcut]; simp)
      have z2 : s2'.size <= (ps[j]).size := part_size (by rw [hcut]; simp)
      refine ⟨⟨by omega, by omega⟩, s1', hld0, ?_⟩
      refine Ret.at (spec_TextInt_c s1' (by omega)) ?_
      rintro v w4 ⟨rfl, y4⟩
      have X4 := X3.trans y4
      obtain ⟨_, hq3, hld1'⟩ := (hS2.ext y4).at (P := P) (t := T_string) (k := 1) (by kernel_rfl) (by omega)
      cases hq3
      refine ⟨_, _, rfl, ⟨by omega, by omega⟩, s2', hld1', ?_⟩
      refine Ret.at (spec_TextPercent_o s2' (by omega)) ?_
      rintro v w5 ⟨vs5, f5, rfl, o5, nd5, y5⟩
      have c5 := tpR_code s2'
      have r5 := o5.reps
      have r5c := r5
      obtain ⟨g0, gp, gn, gc, gz, g2, rfl, _, _⟩ := open_Dec r5 c5
      refine ⟨_, _, _, _, _, _, rfl, ?_⟩
      intro r1 w6 hn6
      obtain ⟨w7, st7, b7, y7⟩ := hn6.fill (P := P) (t := T_impl_Dec) r5c.cells1 (by kernel_rfl) rfl
      have X7 := (X4.trans y5).trans y7
      have hno1 : tiV s1' = none -> tsV s = none := fun h => hbad (stR_no hcut (.inl (by rw [BA_eq]; exact h)))
      have hno2 : tpOk s2' = false -> tsV s = none := fun h => hbad (stR_no hcut (.inr (by rw [BA_eq]; exact h)))
      refine ⟨w7, st7, fun h1 => ⟨fun _ => no (hno1 ?_) _ X7, fun e => absurd e (by simp)⟩, fun h1 => ⟨fun h2 => no (hno2 (by cases hh : tpOk s2' <;> simp_all)) _ X7, fun h2 => ?_⟩⟩
      · cases hh : tiV s1' with
        | none => rfl
        | some v => rw [hh] at h1; simp at h1
      · have ht : tpOk s2' = true := by cases hh : tpOk s2' <;> simp_all
        obtain ⟨nv, hnv⟩ : ∃ nv, tiV s1' = some nv := by
          cases hh : tiV s1' with
          | none => rw [hh] at h1; simp at h1
          | some v => exact ⟨v, rfl⟩
        rw [hnv]
        refine ⟨_, _, _, _, _, b7.loadA0 (by kernel_rfl), ?_⟩
        intro r3 w8 hn8
        have e8 := hn8.r_eq; have s8 := hn8.size
        have l3 := y3.le; have l4 := y4.le; have l5 := y5.le; have l7 := y7.le; have lX := hX.le
        have f5lt := o5.lt
        have hOlt := hO.lt
        have Y8 := ((y3.trans y4).trans (y5.trans (y7.trans hn8.ext)))
        have row : Owns w8 w.heap.size [.int .i64 nv, .bool g0, .slice gp gn gc, .int .i64 g2] (.int nv :: tpR s2') f5 := by
          have := Owns.append (Owns.int w8 w.heap.size nv) ((o5.ext (y7.trans hn8.ext)).mono (B' := w.heap.size) (by omega))
          simpa using this
        obtain ⟨p', c', w9, f', ap9, hO9, ch9, hf'⟩ := OwnRows_pushF (hO.ext Y8) sliceT_step (by omega) hn8.blk rfl row nd5 (fun q hq hm => by have := f5lt q hq; have := hOlt q hm; omega) (by omega) (by decide)
        have pbf : ∀ x ∈ (lp.map (·.block)).toList, x ∈ f := hO.blk_mem
        have hxr : stR (ps[j]).data.toList = some (.int nv :: tpR s2') := by
          have := stR_make (p := (ps[j]).data.toList) hcut (n := nv) (by rw [BA_eq]; exact hnv) (by rw [BA_eq]; exact ht)
          rw [BA_eq] at this; exact this
        have z9 := ch9.size
        refine ⟨p', _, c', w9, ap9, exW ⟨by omega, by omega⟩ ⟨⟨j + 1, xs ++ [.int nv :: tpR s2'], f', by omega, by omega, hO9, ?_, (hC.ext Y8).chg ch9 (fun q hq hm => hcf q hq (pbf q hm)), fun q hq hm => ?_, (hX.trans Y8).chg ch9 (fun q hq => (hOlt q (pbf q hq)).1), by omega⟩, by show cn - ((j : Int) + 1).toNat < cn - (j : Int).toNat; omega⟩⟩
        · rw [List.take_succ_eq_append_getElem hjq, <- hpj]
          exact stL_snoc hst hxr
        · have hq2 := clt q hq
          rcases hf' q hm with h | h | h
          · exact hcf q hq h
          · have := f5lt q h; omega
          · omega
  · have hjn : j = cn := by omega
    have hall : stL (cuts 44 [] s.data.toList) = some xs := by
      rw [List.take_of_length_le (by omega)] at hst
      exact hst
    refine Ret.at (spec_StepsOk_c hO.rows (stL_code hall)) ?_
    rintro v w3 ⟨rfl, y3⟩
    have hend := tsV_end hall
    have X3 := hX.trans y3
    refine ⟨_, rfl, fun hb => ⟨fun _ => no (by rw [hend, if_neg (by simpa using hb)]) _ X3, fun e => absurd e (by simp)⟩, fun hb => ?_⟩
    have hok : stepsOk xs = true := by simpa using hb
    refine Ret.at (spec_StepsText_c (hO.ext y3).rows (stL_code hall)) ?_
    rintro v w4 ⟨rfl, y4⟩
    refine ⟨_, rfl, ifD (fun hne => absurd (steps_text hall hok) hne) (fun _ => ?_)⟩
    rw [hend, if_pos hok]
    exact ⟨_, _, _, f, rfl, (hO.ext y3).ext y4, X3.trans y4⟩
theorem tsV_rows (s : ByteArray) : (∀ x ∈ (tsV s).getD [], x.map D0.code = [.int, .bool, .ints, .int]) /\ cntL ((tsV s).getD []) <= 1000000000 := by
  unfold tsV
  cases hst : stL (cuts 44 [] s.data.toList) with
  | none => exact ⟨fun x hx => by simp at hx, by decide⟩
  | some l =>
    simp only
    by_cases hok : stepsOk l = true
    · rw [if_pos hok]
      refine ⟨fun x hx => stL_code hst x hx, ?_⟩
      have hl := (stepsOk_parts hok).1
      have hc : ∀ x ∈ l, cnts x <= 60 := fun x hx => by
        obtain ⟨i, hi, rfl⟩ := List.getElem_of_mem hx
        obtain ⟨a, b, n, _, _, ht, e⟩ := stR_parts (stL_all hst i (by rw [<- stL_len hst]; exact hi) hi)
        rw [e]
        unfold tpR
        rw [if_pos ht]
        have ht2 := ht
        unfold tpOk at ht2
        simp only [Bool.and_eq_true, decide_eq_true_eq] at ht2
        obtain ⟨b', m, t, hc, hb, hm, htt, hT⟩ := cand_parts ht2.2.1
        rw [hc, lowD_dsn]
        have h1 : (digs (lowM m (t + 2))).length <= (digs m).length := digs_mono_len (lowM_le m (t + 2))
        simp only [dsn, cnts, D0.cnt]
        omega
      have := cntL_le (k := 60) hc
      show cntL l <= 1000000000
      omega
    · rw [if_neg hok]
      exact ⟨fun x hx => by simp at hx, by decide⟩
def tsOk (s : ByteArray) : Bool := (tsV s).isSome
def tsR (s : ByteArray) : List (List D0) := (tsV s).getD []
theorem impl_TextSteps_c {w : World} (s : ByteArray) (hs : s.size <= 1048576) (hp : TabP w) (he : TabE w) :
    Ret P n_impl_TextSteps [.string s] w fun v w' => ∃ p n c f, v = .tuple #[.slice p n c, .bool (tsOk s)] /\ OwnRows w' w.heap.size T_impl_Step 4 p n c (tsR s) f /\ (∀ x ∈ tsR s, x.map D0.code = [.int, .bool, .ints, .int]) /\ cntL (tsR s) <= 1000000000 /\ Ext w w' :=
  (impl_TextSteps_o s hs hp he).mono fun v w' ⟨p, n, c, f, hv, ho, hx⟩ => ⟨p, n, c, f, hv, ho, (tsV_rows s).1, (tsV_rows s).2, hx⟩
theorem spec_TextSteps_c {w : World} (s : ByteArray) (hs : s.size <= 1048576) :
    Ret P n_spec_TextSteps [.string s] w fun v w' => ∃ p n c, v = .tuple #[.slice p n c, .bool (tsOk s)] /\ RowsR w' 4 p n c (tsR s) /\ (∀ x ∈ tsR s, x.map D0.code = [.int, .bool, .ints, .int]) /\ Ext w w' :=
  (spec_TextSteps_o s hs).mono fun v w' ⟨p, n, c, f, hv, ho, hx⟩ => ⟨p, n, c, hv, ho.rows, (tsV_rows s).1, hx⟩
end Go.Proofs.YtgbknjdjbahdkaaGreatDoor
namespace Go.Proofs.YtgbknjdjbahdkaaGreatDoor.Sx
open Go Go.RowKit
theorem Fl.trans {os : List Obj} {ss : List (Option Nat)} {w : World} {s1 : List (Option Nat)} {w1 : World} {s2 : List (Option Nat)} {w2 : World} (h : Fl os ss w s1 w1) (g : Fl os s1 w1 s2 w2) : Fl os ss w s2 w2 := by
  induction h with
  | refl => exact g
  | step h1 h2 _ ih => exact .step h1 h2 (ih g)
theorem Fl.old {os : List Obj} {ss : List (Option Nat)} {w : World} {s1 : List (Option Nat)} {w1 : World} (h : Fl os ss w s1 w1) {k r : Nat} (hk : s1[k]? = some (some r)) : ss[k]? = some (some r) ∨ w.heap.size <= r := by
  induction h with
  | refl => exact .inl hk
  | step h1 h2 h3 ih =>
    rename_i ss w k' o s' w'
    have hs : (w.alloc o).heap.size = w.heap.size + 1 := by simp
    rcases ih hk with h | h
    · by_cases e : k' = k
      · subst e
        have hl : k' < ss.length := by
          rcases Nat.lt_or_ge k' ss.length with h | h
          · exact h
          · rw [List.getElem?_eq_none h] at h1; cases h1
        rw [List.getElem?_set_self hl] at h
        simp at h
        exact .inr (by omega)
      · rw [List.getElem?_set_ne e] at h
        exact .inl h
    · exact .inr (by omega)
def FlS (os : List Obj) (w0 : World) (ss : List (Option Nat)) (w : World) : Prop :=
 Ext w0 w /\ (∀ (k r : Nat), ss[k]? = some (some r) -> w0.heap.size <= r /\ r < w.heap.size /\ w.heap[r]? = os[k]?) /\ (∀ (k l r : Nat), ss[k]? = some (some r) -> ss[l]? = some (some r) -> k = l)
theorem FlS.ext {os : List Obj} {w0 w w' : World} {ss : List (Option Nat)} (h : FlS os w0 ss w) (y : Ext w w') : FlS os w0 ss w' :=
  ⟨h.1.trans y, fun k r hk => by
    obtain ⟨a, b, c⟩ := h.2.1 k r hk
    exact ⟨a, Nat.lt_of_lt_of_le b y.le, (y.block r b).trans c⟩, h.2.2⟩
theorem FlS.step {os : List Obj} {w0 w w' : World} {ss ss' : List (Option Nat)} (h : FlS os w0 ss w) (f : Fl os ss w ss' w') : FlS os w0 ss' w' := by
  induction f with
  | refl => exact h
  | step h1 h2 h3 ih =>
    rename_i ss w k' o s' w'
    refine ih ?_
    have y : Ext w (w.alloc o) := (Below.refl _ _).alloc (Nat.le_refl _) _
    have hs : (w.alloc o).heap.size = w.heap.size + 1 := by simp
    have hg : (w.alloc o).heap[w.heap.size]? = some o := heap_alloc_new w _
    have hl : k' < ss.length := by
      rcases Nat.lt_or_ge k' ss.length with h | h
      · exact h
      · rw [List.getElem?_eq_none h] at h1; cases h1
    have hx := h.ext y
    have hle := h.1.le
    refine ⟨hx.1, fun k r hk => ?_, fun k l r hk hl' => ?_⟩
    · by_cases e : k' = k
      · subst e
        rw [List.getElem?_set_self hl] at hk
        simp at hk
        subst hk
        exact ⟨hle, by omega, hg.trans h2.symm⟩
      · rw [List.getElem?_set_ne e] at hk
        exact hx.2.1 k r hk
    · by_cases e : k' = k
      · by_cases e2 : k' = l
        · omega
        · subst e
          rw [List.getElem?_set_self hl] at hk
          simp at hk
          subst hk
          rw [List.getElem?_set_ne e2] at hl'
          have := (h.2.1 l _ hl').2.1
          omega
      · rw [List.getElem?_set_ne e] at hk
        by_cases e2 : k' = l
        · subst e2
          rw [List.getElem?_set_self hl] at hl'
          simp at hl'
          subst hl'
          have := (h.2.1 k _ hk).2.1
          omega
        · rw [List.getElem?_set_ne e2] at hl'
          exact h.2.2 k l r hk hl'
theorem FlS.first {os : List Obj} {w0 w : World} {ss0 ss : List (Option Nat)} (f : Fl os ss0 w0 ss w) (h : ss0.all Option.isNone = true) : FlS os w0 ss w := by
  refine FlS.step ⟨Ext.refl _, fun k r hk => ?_, fun k l r hk _ => ?_⟩ f <;>
  · have hm := List.mem_of_getElem? hk
    have := List.all_eq_true.1 h _ hm
    simp at this
theorem FlS.blk {os : List Obj} {w0 w : World} {ss : List (Option Nat)} {k r : Nat} {cs : List Value} {e : TypeId} (h : FlS os w0 ss w) (hk : ss[k]? = some (some r)) (ho : os[k]? = some (.cells ⟨cs⟩ e (0, 0))) : w0.heap.size <= r /\ r < w.heap.size /\ Blk w r e cs := by
  obtain ⟨a, b, c⟩ := h.2.1 k r hk
  exact ⟨a, b, c.trans ho⟩
theorem FlS.ne {os : List Obj} {w0 w : World} {ss : List (Option Nat)} {k l r s : Nat} (h : FlS os w0 ss w) (hk : ss[k]? = some (some r)) (hl : ss[l]? = some (some s)) (e : k ≠ l) : r ≠ s := fun hh => e (h.2.2 k l r hk (hh ▸ hl))
theorem FlS.apart {os : List Obj} {w0 wc we w' : World} {ss ss' : List (Option Nat)} {k r : Nat} (h : FlS os w0 ss wc) (f : Fl os ss we ss' w') (hk : ss'[k]? = some (some r)) : r < wc.heap.size ∨ we.heap.size <= r := by
  rcases f.old hk with a | a
  · exact .inl (h.2.1 k r a).2.1
  · exact .inr a
end Go.Proofs.YtgbknjdjbahdkaaGreatDoor.Sx
namespace Go.Proofs.YtgbknjdjbahdkaaGreatDoor
open Go Go.Proofs.YtgbknjdjbahdkaaGreatDoor.Sx
theorem cntL_nn {d : List (List D0)} {m : Int} (_ : cntL d <= m) : 0 <= cntL d := cntL_nonneg d
end Go.Proofs.YtgbknjdjbahdkaaGreatDoor
namespace Go.Proofs.YtgbknjdjbahdkaaGreatDoor
open Go Go.Proofs.YtgbknjdjbahdkaaGreatDoor.Sx
theorem laws_markStepS_c {w : World} {B : Nat} {e : TypeId} {p : Option Addr} {n c : Nat} {l : List (List D0)} {f : List Nat} {k : Int} (h : OwnRows w B e 4 p n c l f) (hc : ∀ x ∈ l, x.map D0.code = [.int, .bool, .ints, .int]) (h0 : 0 <= k) (h1 : k + cntL l <= 1000000000000000000) :
    Ret P n_laws_markStepS [.slice p n c, .int .i64 k] w fun v w' => v = .int .i64 (k + cntL l) /\ OwnRows w' B e 4 p n c (markL l k) f /\ Chg f w w' := by
  have hz := h.1; have hcap := h.rows.2.1; have hcm := h.rows.2.2.1
  refine laws_markStepS_ret ?_
  unfold laws_markStepS
  refine ⟨fun k1 i wr => ∃ j : Nat, i = j /\ j <= n /\ k1 = k + cntL (l.take j) /\ OwnRows wr B e 4 p n c (markL (l.take j) k ++ l.drop j) f /\ Chg f w wr, fun _ i _ => n - i.toNat, ⟨0, rfl, by omega, by simp [cntL], by simpa [markL] using h, Chg.refl _ _⟩, ?_⟩
  intro junk wr k1 i ⟨j, hij, hj, hk1, ho, hch⟩
  subst hij
  refine ifD (fun hlt => ?_) (fun hge => ?_)
  · have hjl : j < l.length := by omega
    obtain ⟨x, hxe⟩ : ∃ x, l[j]? = some x := ⟨_, List.getElem?_eq_getElem hjl⟩
    have hcode := hc x (List.mem_of_getElem? hxe)
    obtain ⟨hct, hcle⟩ := cntL_row hxe
    have hcn := cntL_nonneg (l.take j)
    obtain ⟨b, xs, cs, zs, fi, hp, hB, hA, hk, blk, ow, ndf, hbf, hbm, hfm, back⟩ := ho.focus (markL_at hxe)
    subst hp
    obtain ⟨a0, us, es, rfl, rfl, ow2, hcode2⟩ := ow.consInt hcode
    clear ow hcode; have ow := ow2; have hcode := hcode2; clear ow2 hcode2
    obtain ⟨a1, us, es, rfl, rfl, ow2, hcode2⟩ := ow.consBool hcode
    clear ow hcode; have ow := ow2; have hcode := hcode2; clear ow2 hcode2
    obtain ⟨a2p, a2n, a2c, a2z, us, es, f2, rfl, rfl, rfl, o2, ow2, hcode2⟩ := ow.consInts hcode
    clear ow hcode; have ow := ow2; have hcode := hcode2; clear ow2 hcode2
    obtain ⟨a3, us, es, rfl, rfl, ow2, hcode2⟩ := ow.consInt hcode
    clear ow hcode; have ow := ow2; have hcode := hcode2; clear ow2 hcode2
    obtain ⟨rfl, rfl, rfl⟩ := ow.done hcode
    simp only [cnts, D0.cnt] at hct hcle
    have z2 : a2z.length = a2n := by have := o2.len; simpa using this
    have m2 : ∀ q, a2p.map (·.block) = some q -> q ∈ ((a2p.map (·.block)).toList ++ ([] : List Nat)) := fun q hq => List.mem_append_left _ (mem_opt hq)
    have u2 : ∀ {W : World} {W2 : World} {zs : List Value}, Own W B T_int 1 a2p a2n a2c zs -> Chg [b] W W2 -> Own W2 B T_int 1 a2p a2n a2c zs := fun o ch => o.chg ch (fun q hq hm => hbf (List.mem_singleton.1 hm ▸ m2 q hq))
    have chT : Chg (b :: ((a2p.map (·.block)).toList ++ ([] : List Nat))) wr wr := Chg.refl _ _
    have sub1 : ∀ q ∈ [b], q ∈ b :: ((a2p.map (·.block)).toList ++ ([] : List Nat)) := fun q hq => by rw [List.mem_singleton.1 hq]; exact List.mem_cons_self
    obtain ⟨w1, st, blk2, ch, sz⟩ := blk.storeMid (P := P) (t := T_int) (v := .int .i64 (k1)) hA 0 (by simp) (by kernel_rfl) rfl rfl
    have blk : Blk w1 b e (xs ++ [.int .i64 (k1), .bool a1, .slice a2p a2n a2c, .int .i64 a3] ++ zs) := blk2; clear blk2
    have chT := chT.trans (ch.mono sub1)
    have o2 := u2 o2 ch
    refine ⟨⟨by omega, by omega⟩, w1, (by simp only [addr_add, Int.toNat_natCast, Nat.zero_add, Nat.add_zero]; exact st), exW ⟨by omega, by omega⟩ ?_⟩
    refine ⟨by decide, _, rfl, ⟨by omega, by omega⟩, ?_⟩
    rw [Int.tmod_eq_emod_of_nonneg (show (0 : Int) <= k1 + 1 by omega)]
    obtain ⟨w2, st, blk2, ch, sz⟩ := blk.storeMid (P := P) (t := T_bool) (v := .bool (decide ((k1 + 1) % 3 = 0))) hA 1 (by simp) (by kernel_rfl) rfl rfl
    have blk : Blk w2 b e (xs ++ [.int .i64 (k1), .bool (decide ((k1 + 1) % 3 = 0)), .slice a2p a2n a2c, .int .i64 a3] ++ zs) := blk2; clear blk2
    have chT := chT.trans (ch.mono sub1)
    have o2 := u2 o2 ch
    refine ⟨w2, (by simp only [addr_add, Int.toNat_natCast, Nat.zero_add, Nat.add_zero]; exact st), exW ⟨by omega, by omega⟩ ?_⟩
    refine ⟨⟨by omega, by omega⟩, _, _, _, (by simp only [addr_add, Int.toNat_natCast, Nat.zero_add, Nat.add_zero]; exact (blk.segMid hA).loadAt 2 rfl (by kernel_rfl) rfl), ?_⟩
    refine Ret.at (laws_markIntS_c o2 (by omega) (by omega)) ?_
    rintro v w3 ⟨hv, on, ch⟩
    subst hv
    have blk := blk.chg ch (fun hm => hbf (m2 _ (opt_mem hm)))
    have chT := chT.trans (ch.mono (fun q hq => List.mem_cons_of_mem _ (m2 q (opt_mem hq))))
    have o2 := on; clear on
    refine ⟨_, rfl, ?_⟩
    obtain ⟨w4, st, blk2, ch, sz⟩ := blk.storeMid (P := P) (t := T_int) (v := .int .i64 (k1 + 1 + 1 + (a2n : Nat))) hA 3 (by simp) (by kernel_rfl) rfl rfl
    have blk : Blk w4 b e (xs ++ [.int .i64 (k1), .bool (decide ((k1 + 1) % 3 = 0)), .slice a2p a2n a2c, .int .i64 (k1 + 1 + 1 + (a2n : Nat))] ++ zs) := blk2; clear blk2
    have chT := chT.trans (ch.mono sub1)
    have o2 := u2 o2 ch
    refine ⟨⟨by omega, by omega⟩, w4, (by simp only [addr_add, Int.toNat_natCast, Nat.zero_add, Nat.add_zero]; exact st), exW ⟨by omega, by omega⟩ ?_⟩
    refine exW ⟨by omega, by omega⟩ ⟨⟨j + 1, by omega, by omega, by omega, ?_, hch.trans (chT.mono (fun q hq => ?_))⟩, ?_⟩
    · rw [<- markL_set hxe, <- hk1]
      have e : marks [.int a0, .bool a1, .ints a2z, .int a3] k1 = [.int (k1), .bool (decide ((k1 + 1) % 3 = 0)), .ints (mkI a2n (k1 + 1 + 1)), .int (k1 + 1 + 1 + (a2n : Nat))] := by simp only [marks, D0.mark, D0.cnt, z2] <;> rfl
      rw [e]
      exact back _ [.int .i64 (k1), .bool (decide ((k1 + 1) % 3 = 0)), .slice a2p a2n a2c, .int .i64 (k1 + 1 + 1 + (a2n : Nat))] _ chT rfl blk (Owns.append (Owns.int _ _ _) (Owns.append (Owns.bool _ _ _) (Owns.append (Owns.ints o2) (Owns.append (Owns.int _ _ _) (Owns.nil _ _)))))
    · rcases List.mem_cons.1 hq with h | h
      · rw [h]; exact hbm
      · exact hfm q h
    · show n - ((j : Int) + 1).toNat < n - (j : Int).toNat
      omega
  · have hjn : j = n := by omega
    subst hjn
    rw [List.take_of_length_le (by omega), List.drop_of_length_le (by omega), List.append_nil] at ho
    rw [List.take_of_length_le (by omega)] at hk1
    exact ⟨by rw [hk1], ho, hch⟩
theorem laws_heldStepS_c {w : World} {p : Option Addr} {n c : Nat} {l : List (List D0)} {k : Int} (h : RowsR w 4 p n c (markL l k)) (hc : ∀ x ∈ l, x.map D0.code = [.int, .bool, .ints, .int]) (h0 : 0 <= k) (h1 : k + cntL l <= 1000000000000000000) :
    Ret P n_laws_heldStepS [.slice p n c, .int .i64 k] w fun v w' => v = .int .i64 (k + cntL l) /\ Ext w w' := by
  have hz : l.length = n := by have := h.1; rwa [markL_len] at this
  have hcap := h.2.1; have hcm := h.2.2.1
  refine laws_heldStepS_ret ?_
  unfold laws_heldStepS
  refine ⟨fun k1 i wr => ∃ j : Nat, i = j /\ j <= n /\ k1 = k + cntL (l.take j) /\ Ext w wr, fun _ i _ => n - i.toNat, ⟨0, rfl, by omega, by simp [cntL], Ext.refl _⟩, ?_⟩
  intro junk wr k1 i ⟨j, hij, hj, hk1, hx⟩
  subst hij
  refine ifD (fun hlt => ?_) (fun hge => ?_)
  · have hjl : j < l.length := by omega
    obtain ⟨x, hxe⟩ : ∃ x, l[j]? = some x := ⟨_, List.getElem?_eq_getElem hjl⟩
    have hcode := hc x (List.mem_of_getElem? hxe)
    obtain ⟨hct, hcle⟩ := cntL_row hxe
    have hcn := cntL_nonneg (l.take j)
    obtain ⟨b, off, hp, hs⟩ := (h.ext hx).2.2.2 (by omega)
    subst hp
    obtain ⟨cs, hk, hr, hsg⟩ := hs j _ (markL_get l k j x hxe)
    rw [<- hk1] at hr
    obtain ⟨s0, es, rfl, hcode2⟩ := code_int hcode
    clear hcode; have hcode := hcode2; clear hcode2
    obtain ⟨s1, es, rfl, hcode2⟩ := code_bool hcode
    clear hcode; have hcode := hcode2; clear hcode2
    obtain ⟨z2, es, rfl, hcode2⟩ := code_ints hcode
    clear hcode; have hcode := hcode2; clear hcode2
    obtain ⟨s3, es, rfl, hcode2⟩ := code_int hcode
    clear hcode; have hcode := hcode2; clear hcode2
    have hn := code_nil hcode; subst hn
    simp only [marks, D0.mark, D0.cnt] at hr
    simp only [cnts, D0.cnt] at hct hcle
    obtain ⟨a0, us, es, rfl, hd, hr2, hc2⟩ := hr.int rfl
    cases hd
    clear hr hc2; have hr := hr2; clear hr2
    obtain ⟨a1, us, es, rfl, hd, hr2, hc2⟩ := hr.bool rfl
    cases hd
    clear hr hc2; have hr := hr2; clear hr2
    obtain ⟨a2p, a2n, a2c, a2z, us, es, rfl, hd, g2, hr2, hc2⟩ := hr.ints rfl
    cases hd
    clear hr hc2; have hr := hr2; clear hr2
    obtain ⟨a3, us, es, rfl, hd, hr2, hc2⟩ := hr.int rfl
    cases hd
    clear hr hc2; have hr := hr2; clear hr2
    obtain ⟨hv, _⟩ := hr.done rfl
    subst hv
    have y2 : z2.length = a2n := by have := g2.1; rwa [mkI_len] at this
    rw [y2] at g2
    try simp only [y2] at hsg
    have X : Ext wr wr := Ext.refl _
    refine ⟨⟨by omega, by omega⟩, _, (by simp only [addr_add, Int.toNat_natCast, Nat.zero_add, Nat.add_zero]; exact (hsg.ext X).loadAt 0 rfl (by kernel_rfl) rfl), ifD (fun hne => absurd rfl hne) (fun _ => exW ⟨by omega, by omega⟩ ?_)⟩
    refine ⟨⟨by omega, by omega⟩, _, (by simp only [addr_add, Int.toNat_natCast, Nat.zero_add, Nat.add_zero]; exact (hsg.ext X).loadAt 1 rfl (by kernel_rfl) rfl), by decide, _, rfl, ?_⟩
    rw [Int.tmod_eq_emod_of_nonneg (show (0 : Int) <= k1 + 1 by omega)]
    refine ⟨fun h => absurd h (bne_no rfl), fun _ => exW ⟨by omega, by omega⟩ ?_⟩
    refine ⟨⟨by omega, by omega⟩, _, _, _, (by simp only [addr_add, Int.toNat_natCast, Nat.zero_add, Nat.add_zero]; exact (hsg.ext X).loadAt 2 rfl (by kernel_rfl) rfl), ?_⟩
    refine Ret.at (laws_heldIntS_c (n := a2n) (k := k1 + 1 + 1) (by have := g2.ext X;  exact this) (by omega) (by omega)) ?_
    rintro v w1 ⟨hv, y⟩
    subst hv
    have X := X.trans y
    refine ⟨_, rfl, ifD (fun h => absurd h (by omega)) (fun _ => ?_)⟩
    refine ⟨⟨by omega, by omega⟩, _, (by simp only [addr_add, Int.toNat_natCast, Nat.zero_add, Nat.add_zero]; exact (hsg.ext X).loadAt 3 rfl (by kernel_rfl) rfl), ifD (fun hne => absurd rfl hne) (fun _ => exW ⟨by omega, by omega⟩ ?_)⟩
    refine exW ⟨by omega, by omega⟩ ⟨⟨j + 1, by omega, by omega, by omega, hx.trans X⟩, ?_⟩
    show n - ((j : Int) + 1).toNat < n - (j : Int).toNat
    omega
  · have hjn : j = n := by omega
    subst hjn
    rw [List.take_of_length_le (by omega)] at hk1
    exact ⟨by rw [hk1], hx⟩
end Go.Proofs.YtgbknjdjbahdkaaGreatDoor
namespace Go.Proofs.YtgbknjdjbahdkaaGreatDoor
open Go Go.Proofs.YtgbknjdjbahdkaaGreatDoor.Sx
set_option maxHeartbeats 4000000
theorem laws_FnExactTextSteps_c {w : World} (a0 : ByteArray) (hp : TabP w) (he : TabE w) :
    Ret P n_laws_FnExactTextSteps [.string a0] w fun v w' => v = .bool true /\ Ext w w' := by
  refine laws_FnExactTextSteps_ret ?_
  unfold laws_FnExactTextSteps
  have x : Ext w w := Ext.refl w
  refine ifD (fun _ => ⟨rfl, x⟩) (fun hs0 => ?_)
  refine Ret.at (spec_TextSteps_c a0 (by omega)) ?_
  rintro v W1 ⟨p_w0, m_w0, c_w0, hv, o_w0, co_w0, y⟩
  subst hv
  replace x := x.trans y
  have ll1 := y.le
  have xS := Ext.refl W1
  refine ⟨_, _, _, _, rfl, ?_⟩
  refine Ret.at (impl_TextSteps_c a0 (by omega) (hp.ext x) (he.ext x)) ?_
  rintro v W2 ⟨p_g0, m_g0, c_g0, f_g0, hv, o_g0, co_g0, ct_g0, y⟩
  subst hv
  have tn_g0 := cntL_nn ct_g0
  have lt_o_g0 : ∀ k ∈ f_g0, W1.heap.size <= k /\ k < W2.heap.size := o_g0.lt
  replace x := x.trans y
  replace xS := xS.trans y
  have ll2 := y.le
  refine ⟨_, _, _, _, rfl, ?_⟩
  refine Ret.at (laws_eqStepS_c o_g0.rows (o_w0.ext xS) co_g0 co_w0) ?_
  rintro v W3 ⟨hv, y⟩
  subst hv
  replace x := x.trans y
  replace xS := xS.trans y
  replace o_g0 := o_g0.ext y
  have ll3 := y.le
  refine ⟨_, rfl, ifN (fun h => absurd h (by simp)) (fun _ => ?_)⟩
  refine ⟨fun h => absurd h (bne_no rfl), fun _ => ?_⟩
  unfold laws_FnExactTextSteps_j0
  refine Ret.at (laws_markStepS_c o_g0 co_g0 (by omega) (by omega)) ?_
  rintro v W4 ⟨hv, on, ch⟩
  subst hv
  replace x := x.chg ch (fun k hk => by have := lt_o_g0 k hk; omega)
  replace xS := xS.chg ch (fun k hk => by have := lt_o_g0 k hk; omega)
  have ll4 := ch.size
  replace o_g0 := on; clear on
  refine ⟨_, rfl, ?_⟩
  refine Ret.at (laws_heldStepS_c o_g0.rows co_g0 (by omega) (by omega)) ?_
  rintro v W5 ⟨hv, y⟩
  subst hv
  replace x := x.trans y
  replace xS := xS.trans y
  replace o_g0 := o_g0.ext y
  have ll5 := y.le
  refine ⟨_, rfl, ifD (fun h => absurd h (by omega)) (fun _ => ?_)⟩
  refine ifD (fun h => absurd rfl h) (fun _ => ?_)
  refine Ret.at (impl_TextSteps_c a0 (by omega) (hp.ext x) (he.ext x)) ?_
  rintro v W6 ⟨p_h0, m_h0, c_h0, f_h0, hv, o_h0, co_h0, ct_h0, y⟩
  subst hv
  have tn_h0 := cntL_nn ct_h0
  have lt_o_h0 : ∀ k ∈ f_h0, W5.heap.size <= k /\ k < W6.heap.size := o_h0.lt
  replace x := x.trans y
  replace xS := xS.trans y
  replace o_g0 := o_g0.ext y
  have ll6 := y.le
  refine ⟨_, _, _, _, rfl, ?_⟩
  refine Ret.at (laws_eqStepS_c o_h0.rows (o_w0.ext xS) co_h0 co_w0) ?_
  rintro v W7 ⟨hv, y⟩
  subst hv
  replace x := x.trans y
  replace xS := xS.trans y
  replace o_g0 := o_g0.ext y
  replace o_h0 := o_h0.ext y
  have ll7 := y.le
  refine ⟨_, rfl, ifN (fun h => absurd h (by simp)) (fun _ => ?_)⟩
  refine ⟨fun h => absurd h (bne_no rfl), fun _ => ?_⟩
  unfold laws_FnExactTextSteps_j1
  refine Ret.at (laws_heldStepS_c o_g0.rows co_g0 (by omega) (by omega)) ?_
  rintro v W8 ⟨hv, y⟩
  subst hv
  replace x := x.trans y
  replace xS := xS.trans y
  replace o_g0 := o_g0.ext y
  replace o_h0 := o_h0.ext y
  have ll8 := y.le
  refine ⟨_, rfl, ifD (fun h => absurd h (by omega)) (fun _ => ?_)⟩
  refine ifD (fun h => absurd rfl h) (fun _ => ?_)
  exact ⟨rfl, x⟩
end Go.Proofs.YtgbknjdjbahdkaaGreatDoor
namespace Go.Proofs.YtgbknjdjbahdkaaGreatDoor.Sx
open Go Go.RowKit Go.ChangeShapes Go.WideShapes
def rowedV (P : Program) (ns : List String) : Bool := ns.all fun n => ((P.globalNamed n).bind (P.globals[·]?)).all fun gl => P.readableRec gl.type && decide (gl.type < P.types.size)
section
variable {H : Type} {enc : TypeId × Value -> H} {P : Program}
theorem trodAll_ext (hl : laidOutB P = true) {W W' : World} (hb : Ext W W') (sp' : Nat -> Bool) : ∀ {ts : List TypeId} {vs : List Value} {ds : List (DataW H)} {ps : List MemPlace},
    (∀ t ∈ ts, P.readableRec t = true /\ t < P.types.size) -> (∀ p ∈ ps, p.block < W.heap.size) -> (∀ p ∈ ps, sp' p.block = true) ->
    DataW.TrodAll enc P W 0 (fun _ => true) true ts vs ds ps -> DataW.TrodAll enc P W' 0 sp' true ts vs ds ps
  | [], _, _, _, _, _, _, h => by
    obtain ⟨rfl, rfl, rfl⟩ := trodAll_nil h
    exact rfl
  | t :: ts, _, _, _, hr, hlt, hsp, h => by
    obtain ⟨v, vs1, d, ds1, a, b, rfl, rfl, rfl, h1, h2⟩ := trodAll_cons h
    have hrt := hr t (by simp)
    exact ⟨a, b, WideElems.Trod_stays hl hrt.1 hrt.2 h1 (fun x hx => Below.same hb (hlt x (by simp [hx]))) (fun x hx => hsp x (by simp [hx])),
      trodAll_ext hl hb sp' (fun u hu => hr u (by simp [hu])) (fun x hx => hlt x (by simp [hx])) (fun x hx => hsp x (by simp [hx])) h2, rfl⟩
theorem trodVars_sp (hl : laidOutB P = true) {W W' : World} (hb : Ext W W') (sp' : Nat -> Bool) :
    ∀ {ns : List String} {gs : List (DataW H)} {ps : List MemPlace}, rowedV P ns = true -> (∀ p ∈ ps, sp' p.block = true) -> DataW.TrodVars enc P W (fun _ => true) ns gs ps -> DataW.TrodVars enc P W' sp' ns gs ps
  | [], [], _, _, _, h => h
  | [], _ :: _, _, _, _, h => h.elim
  | _ :: _, [], _, _, _, h => h.elim
  | n :: ns, d :: ds, ps, hv, hsp, h => by
    have hlt := h.lt
    obtain ⟨g, t, cs, fuel, p, q, h1, h2, h3, h4, hs, e⟩ := h
    simp only [rowedV, List.all_cons, Bool.and_eq_true] at hv
    have ht : P.readableRec t = true /\ t < P.types.size := by
      have := hv.1
      rw [h1] at this
      cases hg : P.globals[g]? with
      | none => rw [hg] at h2; cases h2
      | some gl =>
        rw [hg] at h2
        obtain rfl : gl.type = t := Option.some.inj h2
        simpa [hg] using this
    have hp : ∀ x ∈ p, x.block < W.heap.size := fun x hx => hlt x (by rw [e]; simp [hx])
    have h3' : W'.var? P n = some cs := by
      unfold World.var? at h3 ⊢
      rw [h1] at h3 ⊢
      simp only [Option.bind_some] at h3 ⊢
      have hg : g < W.heap.size := by
        cases hh : W.heap[g]? with
        | none => rw [hh] at h3; cases h3
        | some o => exact (Array.getElem?_eq_some_iff.1 hh).1
      rw [hb.block g hg]; exact h3
    exact ⟨g, t, cs, fuel, p, q, h1, h2, h3', DataW.trod_stays (kids_book hl ht.1) (book_sized ht.1) (fun h => by cases h) ⟨ht.2, book_self t⟩ h4 (fun x hx => Below.same hb (hp x hx)) (fun x hx => hsp x (by rw [e]; simp [hx])),
      trodVars_sp hl hb sp' (by simpa [rowedV] using hv.2) (fun x hx => hsp x (by rw [e]; simp [hx])) hs, e⟩
theorem post_of_ext {f : Func} {s : ChangeSpec} {apart fresh handsOn again : Bool} {W W' : World} {args : Array Value} {ds gs : List (DataW H)} {before : List MemPlace} {tb : TypeId}
    (hl : laidOutB P = true) (hpar : ∀ t ∈ f.params.toList, P.readableRec t = true /\ t < P.types.size) (hvr : rowedV P s.vars = true)
    (hrt : f.resultTypes = #[tb]) (htb : P.underlying tb = some .bool)
    (hW : DataW.Whole enc P f.params.toList s.vars apart W args.toList ds gs before) (hx : Ext W W')
    (hfn : s.fn H (ds ++ gs) = { results := [.lit (.bool true)], args := ds, vars := gs }) :
    s.post enc P f apart fresh handsOn again W args (.bool true) W' := by
  have hW0 := hW
  have hlt : ∀ p ∈ before, p.block < W.heap.size := hW.lt
  obtain ⟨pa, pv, hA, hV, rfl, hz, hn⟩ := hW
  have hlta : ∀ p ∈ pa, p.block < W.heap.size := fun p hp => hlt p (by simp [hp])
  have hltv : ∀ p ∈ pv, p.block < W.heap.size := fun p hp => hlt p (by simp [hp])
  have hr : (Value.bool true).resultList f.resultTypes.size = [Value.bool true] := by rw [hrt]; rfl
  refine ⟨ds, gs, pa ++ pv, [], pa, pv, hW0, ?_, ?_, ?_, Below.frame hx _, fun _ => ?_⟩
  · rw [hfn, hr, hrt]
    exact trodAll_mk1 (shut_bool htb _)
  · rw [hfn]
    exact trodAll_ext hl hx _ hpar hlta (fun p hp => by simpa using hlta p hp) hA
  · rw [hfn]
    exact trodVars_sp hl hx _ hvr (fun p hp => by simpa using hltv p hp) hV
  · refine ⟨?_, (.lit (.bool true)) :: ds, gs, pa ++ pv, ⟨[] ++ pa, pv, ?_, ?_, by simp, ?_, ?_⟩, fun p hp _ => hp⟩
    · rw [hr, hrt]
      exact ok_one (f := { f with resultTypes := #[tb] }) rfl rfl (okWide_bool_mk htb _)
    · rw [hr, hrt]
      exact trodAll_append (trodAll_ext hl hx _ hpar hlta (fun _ _ => rfl) hA) (trodAll_mk1 (shut_bool htb _))
    · exact trodVars_sp hl hx _ hvr (fun _ _ => rfl) hV
    · intro b off hp
      have := hlt _ hp
      rw [Below.frozen hx (p := ⟨b, off, none⟩) this]
      exact hz b off hp
    · exact hn
end
end Go.Proofs.YtgbknjdjbahdkaaGreatDoor.Sx
namespace Go.Proofs.YtgbknjdjbahdkaaGreatDoor
open Go Go.Proofs.YtgbknjdjbahdkaaGreatDoor.Sx
theorem bytes_eq {a b : ByteArray} (h : a.data.toList = b.data.toList) : a = b := by
  obtain ⟨⟨x⟩⟩ := a; obtain ⟨⟨y⟩⟩ := b
  simp at h; subst h; rfl
end Go.Proofs.YtgbknjdjbahdkaaGreatDoor
namespace Go.Proofs.YtgbknjdjbahdkaaGreatDoor
open Go Go.Proofs.YtgbknjdjbahdkaaGreatDoor.Sx
theorem laidMet_tail {W : World} {x : String × DataW Unit} {rest : List (String × DataW Unit)} (h : laidMet P (x :: rest) W) : laidMet P rest W := by
  obtain ⟨ps, hv, hn, hr⟩ := h
  obtain ⟨n, d⟩ := x
  obtain ⟨g, t, cs, fuel, p, q, _, _, _, _, hrest, rfl⟩ := hv
  exact ⟨q, hrest, (List.nodup_append.1 hn).2.1, fun b off hm => hr b off (List.mem_append_right _ hm)⟩
theorem pow_data : (Rows.laid_internal_strconv_uint64pow10 : DataW Unit) = Lib.tabData .u64 Lib.pow10Tab := by kernel_rfl
set_option maxRecDepth 100000 in
theorem tabP_of_head {W : World} {rest : List (String × DataW Unit)} (h : laidMet P (("internal/strconv.uint64pow10", Rows.laid_internal_strconv_uint64pow10) :: rest) W) : TabP W := by
  rw [pow_data] at h
  exact Lib.tabIs_of_head (g := G_pow) (t := TA_pow) (e := TE_pow) (n := 20) (by kernel_rfl) (by kernel_rfl) und_A_pow und_E_pow (by kernel_rfl) (by kernel_rfl) h
def layAt (cs : List Value) : Obj -> Obj
  | .cells _ t frozen => .cells ⟨cs⟩ t frozen
  | o => o
noncomputable def laidWorldP (os : Os) (args : Array Value) : World :=
 { World.holding P os ⟨#[], args, []⟩ with heap := ((((World.holding P os ⟨#[], args, []⟩).heap.modify G_pow (layAt (L_pow.map (Value.int .u64)))).modify G_d32 (layAt (L_d32.map (Value.int .u8)))).modify G_d64 (layAt (L_d64.map (Value.int .u8)))) }
theorem trodVars_zero {H : Type} {enc : TypeId × Value -> H} {w : World} {sp : Nat -> Bool} {gs : List (DataW H)} {ps : List MemPlace} (h : DataW.TrodVars enc P w sp [] gs ps) : gs = [] := by
  match gs, h with
  | [], _ => rfl
  | g :: r, h => exact h.elim
end Go.Proofs.YtgbknjdjbahdkaaGreatDoor
namespace Go.Proofs.YtgbknjdjbahdkaaGreatDoor
open Go Go.Proofs.YtgbknjdjbahdkaaGreatDoor.Sx
def isIfT : Option TypeDesc -> Bool
  | some (.interface _) => true
  | _ => false
theorem iface_of_trod {Q : Program} {w : World} {sp : Nat -> Bool} {fuel : Nat} {t : TypeId} {cs : List Value} {d : DataW Unit} {p : List MemPlace} (ht : isIfT (Q.underlying t) = true)
    (h : DataW.trod (fun _ => ()) Q w 0 sp false fuel t cs = some (d, p)) : ∃ v, cs = [v] /\ (v = .nilIface ∨ ∃ te pe, v = .iface te pe) := by
  cases fuel with
  | zero => simp [DataW.trod] at h
  | succ fuel =>
    cases hu : Q.underlying t with
    | none => rw [hu] at ht; cases ht
    | some u =>
      rw [hu] at ht
      cases u with
      | interface m =>
        simp only [DataW.trod, hu] at h
        match cs, h with
        | [.nilIface], _ => exact ⟨_, rfl, .inl rfl⟩
        | [.iface a b], _ => exact ⟨_, rfl, .inr ⟨a, b, rfl⟩⟩
      | _ => cases ht
theorem laid_iface {Q : Program} {W : World} {name : String} {d : DataW Unit} {rest : List (String × DataW Unit)} {g : Nat} {t : TypeId} (hg : Q.globalNamed name = some g) (hty : (Q.globals[g]?).map (·.type) = some t) (ht : isIfT (Q.underlying t) = true)
    (h : laidMet Q ((name, d) :: rest) W) : ∃ v, W.cell? ⟨g, 0, none⟩ = some v /\ (v = .nilIface ∨ ∃ te pe, v = .iface te pe) := by
  obtain ⟨ps, ⟨g', t', cs, fuel, p, q, hg', ht', hvar, hd, _, _⟩, _⟩ := h
  obtain rfl := Option.some.inj (hg.symm.trans hg')
  obtain rfl := Option.some.inj (hty.symm.trans ht')
  obtain ⟨v, hv, hi⟩ := iface_of_trod ht hd
  refine ⟨v, ?_, hi⟩
  have hc := World.var?_cell hg hvar 0
  rw [hc, <- Array.getElem?_toList, hv]; rfl
abbrev T_err : Nat := 109
set_option maxRecDepth 100000 in
theorem tabE_of_two {W : World} {d1 d2 : DataW Unit} {rest : List (String × DataW Unit)} (h : laidMet P (("strconv.ErrRange", d1) :: ("strconv.ErrSyntax", d2) :: rest) W) : TabE W := by
  obtain ⟨v2, c2, k2⟩ := laid_iface (g := 3) (t := T_err) (by kernel_rfl) (by kernel_rfl) (by kernel_rfl) h
  obtain ⟨v1, c1, k1⟩ := laid_iface (g := 2) (t := T_err) (by kernel_rfl) (by kernel_rfl) (by kernel_rfl) (laidMet_tail h)
  exact ⟨v1, v2, c1, k1, c2, k2⟩
theorem tabsE_of_laid {W : World} (h : laidMetH P [("math/bits.deBruijn32tab", Rows.laid_math_bits_deBruijn32tab), ("math/bits.deBruijn64tab", Rows.laid_math_bits_deBruijn64tab), ("internal/strconv.uint64pow10", Rows.laid_internal_strconv_uint64pow10), ("strconv.ErrRange", Rows.laid_strconv_ErrRange), ("strconv.ErrSyntax", Rows.laid_strconv_ErrSyntax)] W) : TabP W /\ TabE W := by
  have h : laidMet P [("math/bits.deBruijn32tab", Rows.laid_math_bits_deBruijn32tab), ("math/bits.deBruijn64tab", Rows.laid_math_bits_deBruijn64tab), ("internal/strconv.uint64pow10", Rows.laid_internal_strconv_uint64pow10), ("strconv.ErrRange", Rows.laid_strconv_ErrRange), ("strconv.ErrSyntax", Rows.laid_strconv_ErrSyntax)] W := h
  have h2 := laidMet_tail (laidMet_tail h)
  exact ⟨tabP_of_head h2, tabE_of_two (laidMet_tail h2)⟩
noncomputable def layErrs (w : World) : World :=
 { w with heap := (((w.heap.modify 3 (layAt [.iface 193 (.pointer (some ⟨w.heap.size, 0, none⟩))])).modify 2 (layAt [.iface 193 (.pointer (some ⟨w.heap.size + 1, 0, none⟩))])).push
 (.cells ⟨[.string (S [118, 97, 108, 117, 101, 32, 111, 117, 116, 32, 111, 102, 32, 114, 97, 110, 103, 101])]⟩ 195)).push (.cells ⟨[.string (S [105, 110, 118, 97, 108, 105, 100, 32, 115, 121, 110, 116, 97, 120])]⟩ 195) }
noncomputable def laidWorldE (os : Os) (args : Array Value) : World := layErrs (laidWorldP os args)
end Go.Proofs.YtgbknjdjbahdkaaGreatDoor
