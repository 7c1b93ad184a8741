/-
  Parts of the proof of afterFee_holds: CStepsTo, CStepAt, SxRound, GBFeeExact, CFeeA, CFeeE, CFeeX, CFeeS, CFeeExact, CFee, CAfterFee, WAfterFee.
  Conditions: none.
-/
import Derived.WalkKit
import Derived.RangeFuncNested
import Derived.RangeFuncBound
import Derived.RangeFuncCalls
import Derived.RangeFuncLeaves
import Derived.Shelf.Abstract
import Derived.Shelf.RegionOpen
import Derived.OwnWalkIn
import Derived.TacticsInMore
import Derived.LoopNIn
import Derived.LoopIn
import Derived.RangeFuncBox
import Derived.OrdersIn
import Derived.Test.YtmajiilehdpdmaaGreatDoorAf7

namespace Go.Proofs.YtmajiilehdpdmaaGreatDoor
open Go Go.RowKit Go.Shelf Go.Proofs Go.Proofs.YtmajiilehdpdmaaGreatDoor.Sx
set_option linter.unusedVariables false
set_option linter.unusedSimpArgs false
set_option maxRecDepth 100000 in
set_option maxHeartbeats 2000000 in
theorem stepsTo_in (a b : Option Addr) (n c m d : Nat) (w : World) :
    CallsIn Fence.wide 9 Tryz.prog 62 #[.slice a n c, .slice b m d] w fun e w' => e = .returned (.func (.func 96) #[] #[.pointer (some ⟨w.heap.size, 0, none⟩), .pointer (some ⟨w.heap.size + 1, 0, none⟩)]) ∧ w' = (w.alloc (.cells #[.slice a n c] 37)).alloc (.cells #[.slice b m d] 23) := by
  refine callsIn_of_wp Tryz.func62 rfl trivial ?_ rfl
  simp only [Tryz.ntmps62, List.size_toArray, List.length_cons, List.length_nil, Nat.reduceAdd, Nat.reduceSub, Array.replicate_succ, Array.replicate_zero, List.push_toArray, List.append_toArray, List.nil_append, List.cons_append]
  gi_wp2
  go_ret
  exact ⟨by simp, rfl⟩
theorem cell_lt {w : World} {b o : Nat} {v : Value} (h : w.cell? ⟨b, o, none⟩ = some v) : b < w.heap.size := by
  rcases Nat.lt_or_ge b w.heap.size with h1 | h1
  · exact h1
  · have : w.heap[b]? = none := Array.getElem?_eq_none h1
    simp [World.cell?, this] at h
theorem Sx.Ext.trans' {a b c : World} (h : Ext a b) (k : Below a.heap.size b c) : Ext a c := Below.trans h k
theorem grown_of_ext {w w' : World} (h : Ext w w') : w.grownBy w' none := ⟨h.os, h.tape, h.output, h.size, fun k hk _ => h.block k hk⟩
set_option maxRecDepth 100000 in
set_option maxHeartbeats 4000000 in
theorem stepsTo1_in (l Bs Bm b off n c : Nat) (q : Option Addr) (m d K : Nat) (zs : List Int) (w0 : World) (F : Nat → Int) (Gb : Nat → Bool) (Gp : Nat → Option Addr) (Gn Gc : Nat → Nat) (Gs : Nat → Int)
    (hn : n ≤ 8) (hm : IntsR w0 q m d zs) (hrow : ∀ j, j < n → w0.cell? ⟨b, off + j * 4, none⟩ = some (.int .i64 (F j)) ∧ w0.cell? ⟨b, off + j * 4 + 1, none⟩ = some (.bool (Gb j)) ∧ w0.cell? ⟨b, off + j * 4 + 2, none⟩ = some (.slice (Gp j) (Gn j) (Gc j)) ∧ w0.cell? ⟨b, off + j * 4 + 3, none⟩ = some (.int .i64 (Gs j)))
    (hb : b < w0.heap.size) (hz : Canon zs) (hF : ∀ j, j < n → 0 ≤ F j ∧ F j ≤ 9223372036854775807) (hK : K ≤ n) (hK1 : ∀ j, j < K → cmpL (digs (F j).toNat) zs ≤ 0) (hK2 : K < n → 0 < cmpL (digs (F K).toNat) zs)
    (J Jx : List Nat → World → Prop)
    (hY : ∀ pre x W, x < K → J pre W → pre.length < n → YieldAt Fence.wide 8 Tryz.prog l #[.int .i64 (x : Nat), .agg #[.int .i64 (F x), .bool (Gb x), .slice (Gp x) (Gn x) (Gc x), .int .i64 (Gs x)]] W fun e W' =>
      (e = .returned (.bool true) ∧ J (pre ++ [x]) W' ∧ (Below w0.heap.size W W' ∧ W'.cell? ⟨Bm, 0, none⟩ = W.cell? ⟨Bm, 0, none⟩)) ∨ (e = .returned (.bool false) ∧ Jx (pre ++ [x]) W'))
    (W : World) (hJ : AbidesFrom W.heap.size J) (hx : Ext w0 W) (hBs : W.cell? ⟨Bs, 0, none⟩ = some (.slice (some ⟨b, off, none⟩) n c)) (hBm : W.cell? ⟨Bm, 0, none⟩ = some (.slice q m d)) (h0 : J [] W) :
    CallsIn Fence.wide 9 Tryz.prog 96 #[.func (.yield l) #[] #[], .pointer (some ⟨Bs, 0, none⟩), .pointer (some ⟨Bm, 0, none⟩)] W fun e W' => (∃ v, e = .returned v) ∧
      ((∃ ys, ys = List.range K ∧ J ys W') ∨ (∃ pre, True ∧ Jx pre W')) := by
  refine callsIn_of_wp Tryz.func96 rfl trivial ?_ rfl
  simp only [Tryz.ntmps96, List.size_toArray, List.length_cons, List.length_nil, Nat.reduceAdd, Nat.reduceSub, Array.replicate_succ, Array.replicate_zero, List.push_toArray, List.append_toArray, List.nil_append, List.cons_append]
  gi_wp2
  gi_loopw [8] (fun i wr => ∃ k : Nat, k ≤ K ∧ i = .int .i64 k ∧ J (List.range k) wr ∧ Ext w0 wr ∧ wr.cell? ⟨Bm, 0, none⟩ = some (.slice q m d))
    (fun i _ => n - (intOf i).toNat)
  case atStart => exact ⟨0, Nat.zero_le _, rfl, h0, hx, hBm⟩
  case round =>
    obtain ⟨k, hk, rfl, hJs, hnx, hbm⟩ := hrel
    by_cases hlt : k < n
    · obtain ⟨r0, r1, r2, r3⟩ := hrow k hlt
      have r0 := (hnx.cell (p := ⟨b, off + k * 4, none⟩) hb).trans r0
      have r1 := (hnx.cell (p := ⟨b, off + k * 4 + 1, none⟩) hb).trans r1
      have r2 := (hnx.cell (p := ⟨b, off + k * 4 + 2, none⟩) hb).trans r2
      have r3 := (hnx.cell (p := ⟨b, off + k * 4 + 3, none⟩) hb).trans r3
      gi_wp2
      have hmx : Tryz.prog.follows .mixedOrders = true := by kernel_rfl
      obtain ⟨w1, hw1⟩ : ∃ w1, wr.alloc (Obj.cells #[Value.int IntKind.i64 (F k), Value.bool (Gb k), Value.slice (Gp k) (Gn k) (Gc k), Value.int IntKind.i64 (Gs k)] 62) = w1 := ⟨_, rfl⟩
      have x1 : Ext wr w1 := by rw [← hw1]; exact (Below.refl _ _).alloc (Nat.le_refl _) _
      have bk : Blk w1 wr.heap.size 62 [Value.int IntKind.i64 (F k), Value.bool (Gb k), Value.slice (Gp k) (Gn k) (Gc k), Value.int IntKind.i64 (Gs k)] := by rw [← hw1]; exact heap_alloc_new wr _
      obtain ⟨B, hB⟩ : ∃ B, wr.heap.size = B := ⟨_, rfl⟩
      rw [hB] at bk
      have hbm1 : w1.cell? ⟨Bm, 0, none⟩ = some (.slice q m d) := by
        exact (x1.cell (p := ⟨Bm, 0, none⟩) (cell_lt hbm)).trans hbm
      rw [hw1, hB]
      have hc0 : w1.cell? ⟨B, 0, none⟩ = some (.int .i64 (F k)) := bk.cell 0
      have hc1 : w1.cell? ⟨B, 1, none⟩ = some (.bool (Gb k)) := bk.cell 1
      have hc2 : w1.cell? ⟨B, 2, none⟩ = some (.slice (Gp k) (Gn k) (Gc k)) := bk.cell 2
      have hc3 : w1.cell? ⟨B, 3, none⟩ = some (.int .i64 (Gs k)) := bk.cell 3
      have X1 : Ext w0 w1 := hnx.trans x1
      obtain ⟨f0, f1⟩ := hF k hlt
      clear hw1
      have lB := bk.lt
      obtain ⟨cv, hcv⟩ : ∃ cv, cmpL (digs (F k).toNat) zs = cv := ⟨_, rfl⟩
      have hcmp : ∀ W, Ext w0 W → ∀ p n c, IntsR W p n c (digs (F k).toNat) → Ret P n_impl_natCmp [.slice p n c, .slice q m d] W fun v w' => v = .int .i64 cv ∧ Ext W w' := fun W hW p n c hr => by rw [← hcv]; exact impl_natCmp_c hr (hm.ext hW)
      have lM := cell_lt hbm1
      have h3 : cv = -1 ∨ cv = 0 ∨ cv = 1 := by
        rw [← hcv]
        rcases cmpL_val (digs_canon (F k).toNat) hz with ⟨h, _⟩ | ⟨h, _⟩ | ⟨h, _⟩
        · exact .inl h
        · exact .inr (.inl h)
        · exact .inr (.inr h)
      have hkK : cv ≤ 0 → k < K := fun h => by
        rcases Nat.lt_or_ge k K with h1 | h1
        · exact h1
        · have : K = k := by omega
          subst this
          have := hK2 hlt
          rw [hcv] at this; omega
      have hKk : 0 < cv → K = k := fun h => by
        rcases Nat.lt_or_ge k K with h1 | h1
        · have := hK1 k h1
          rw [hcv] at this; omega
        · omega
      rcases h3 with rfl | rfl | rfl
      · have hkK := hkK (by omega)
        gi_region_with_o (first
          | (refine ⟨trivial, ?_⟩; gi_at_call 64; refine (callsIn_wide.2 (impl_NatOf_c f0 f1)).mono ?_; rintro e w2 ⟨v, rfl, p2, n2, c2, rfl, ho2, y2⟩
             have z2 := (Ext.drew w1).trans y2
             have hr2 := ho2.ints
             have hbm2 := (z2.cell (p := ⟨Bm, 0, none⟩) lM).trans hbm1)
          | (refine ⟨trivial, ?_⟩; gi_at_call 63; refine (callsIn_wide.2 (hcmp _ (X1.trans z2) _ _ _ hr2)).mono ?_; rintro e w3 ⟨v, rfl, rfl, y3⟩
             have z3 := z2.trans y3
             have hbm3 := (z3.cell (p := ⟨Bm, 0, none⟩) lM).trans hbm1
             have he0 := (z3.cell (p := ⟨B, 0, none⟩) lB).trans hc0
             have he1 := (z3.cell (p := ⟨B, 1, none⟩) lB).trans hc1
             have he2 := (z3.cell (p := ⟨B, 2, none⟩) lB).trans hc2
             have he3 := (z3.cell (p := ⟨B, 3, none⟩) lB).trans hc3
             obtain ⟨fn, tmps, assign, body, hy, hR⟩ := hY (List.range k) k w3 hkK (hJ _ wr w3 none hJs (grown_of_ext (x1.trans z3)) (fun r e => by cases e)) (by simp; omega))
          | (refine hR.mono ?_; rintro e W3 hE
             obtain ⟨bv, rfl, hE2⟩ : ∃ bv : Bool, e = Ending.returned (Value.bool bv) ∧ ((bv = true ∧ J (List.range k ++ [k]) W3 ∧ (Below w0.heap.size w3 W3 ∧ W3.cell? ⟨Bm, 0, none⟩ = w3.cell? ⟨Bm, 0, none⟩)) ∨ (bv = false ∧ Jx (List.range k ++ [k]) W3)) := by
               rcases hE with ⟨h1, h2⟩ | ⟨h1, h2⟩
               · exact ⟨true, h1, .inl ⟨rfl, h2⟩⟩
               · exact ⟨false, h1, .inr ⟨rfl, h2⟩⟩))
        all_goals
          rcases hE2 with ⟨rfl, hJ3, hk3, hk4⟩ | ⟨rfl, hJx3⟩
          · gi_wp2
            go_roundw
            case rel => exact ⟨k + 1, by omega, by simp, by rw [List.range_succ]; exact hJ3, (X1.trans z3).trans' hk3, hk4.trans hbm3⟩
            case measure => simp [intOf]; omega
          · gi_wp2
            refine bodyPost_ret (results_none rfl _ _ _) rfl ?_
            exact ⟨⟨_, rfl⟩, .inr ⟨_, hJx3⟩⟩
      · have hkK := hkK (by omega)
        gi_region_with_o (first
          | (refine ⟨trivial, ?_⟩; gi_at_call 64; refine (callsIn_wide.2 (impl_NatOf_c f0 f1)).mono ?_; rintro e w2 ⟨v, rfl, p2, n2, c2, rfl, ho2, y2⟩
             have z2 := (Ext.drew w1).trans y2
             have hr2 := ho2.ints
             have hbm2 := (z2.cell (p := ⟨Bm, 0, none⟩) lM).trans hbm1)
          | (refine ⟨trivial, ?_⟩; gi_at_call 63; refine (callsIn_wide.2 (hcmp _ (X1.trans z2) _ _ _ hr2)).mono ?_; rintro e w3 ⟨v, rfl, rfl, y3⟩
             have z3 := z2.trans y3
             have hbm3 := (z3.cell (p := ⟨Bm, 0, none⟩) lM).trans hbm1
             have he0 := (z3.cell (p := ⟨B, 0, none⟩) lB).trans hc0
             have he1 := (z3.cell (p := ⟨B, 1, none⟩) lB).trans hc1
             have he2 := (z3.cell (p := ⟨B, 2, none⟩) lB).trans hc2
             have he3 := (z3.cell (p := ⟨B, 3, none⟩) lB).trans hc3
             obtain ⟨fn, tmps, assign, body, hy, hR⟩ := hY (List.range k) k w3 hkK (hJ _ wr w3 none hJs (grown_of_ext (x1.trans z3)) (fun r e => by cases e)) (by simp; omega))
          | (refine hR.mono ?_; rintro e W3 hE
             obtain ⟨bv, rfl, hE2⟩ : ∃ bv : Bool, e = Ending.returned (Value.bool bv) ∧ ((bv = true ∧ J (List.range k ++ [k]) W3 ∧ (Below w0.heap.size w3 W3 ∧ W3.cell? ⟨Bm, 0, none⟩ = w3.cell? ⟨Bm, 0, none⟩)) ∨ (bv = false ∧ Jx (List.range k ++ [k]) W3)) := by
               rcases hE with ⟨h1, h2⟩ | ⟨h1, h2⟩
               · exact ⟨true, h1, .inl ⟨rfl, h2⟩⟩
               · exact ⟨false, h1, .inr ⟨rfl, h2⟩⟩))
        all_goals
          rcases hE2 with ⟨rfl, hJ3, hk3, hk4⟩ | ⟨rfl, hJx3⟩
          · gi_wp2
            go_roundw
            case rel => exact ⟨k + 1, by omega, by simp, by rw [List.range_succ]; exact hJ3, (X1.trans z3).trans' hk3, hk4.trans hbm3⟩
            case measure => simp [intOf]; omega
          · gi_wp2
            refine bodyPost_ret (results_none rfl _ _ _) rfl ?_
            exact ⟨⟨_, rfl⟩, .inr ⟨_, hJx3⟩⟩
      · obtain rfl := hKk (by omega)
        first
        | (gi_region_with_o (first
          | (refine ⟨trivial, ?_⟩; gi_at_call 64; refine (callsIn_wide.2 (impl_NatOf_c f0 f1)).mono ?_; rintro e w2 ⟨v, rfl, p2, n2, c2, rfl, ho2, y2⟩
             have z2 := (Ext.drew w1).trans y2
             have hr2 := ho2.ints
             have hbm2 := (z2.cell (p := ⟨Bm, 0, none⟩) lM).trans hbm1)
          | (refine ⟨trivial, ?_⟩; gi_at_call 63; refine (callsIn_wide.2 (hcmp _ (X1.trans z2) _ _ _ hr2)).mono ?_; rintro e w3 ⟨v, rfl, rfl, y3⟩
             have z3 := z2.trans y3
             have hbm3 := (z3.cell (p := ⟨Bm, 0, none⟩) lM).trans hbm1
             have he0 := (z3.cell (p := ⟨B, 0, none⟩) lB).trans hc0
             have he1 := (z3.cell (p := ⟨B, 1, none⟩) lB).trans hc1
             have he2 := (z3.cell (p := ⟨B, 2, none⟩) lB).trans hc2
             have he3 := (z3.cell (p := ⟨B, 3, none⟩) lB).trans hc3
             have hJ3 := hJ _ wr w3 none hJs (grown_of_ext (x1.trans z3)) (fun r e => by cases e))
          | (refine (show (∀ (f : FuncId), none = some f → Fence.wide.fn f) ∧ _ from ⟨fun _ h => (by cases h), ?_⟩))))
        | skip
        all_goals
          gi_wp2
          refine bodyPost_ret (results_none rfl _ _ _) rfl ?_
          exact ⟨⟨_, rfl⟩, .inl ⟨_, rfl, hJ3⟩⟩
    · obtain rfl : k = n := by omega
      obtain rfl : K = k := by omega
      gi_wp2
      go_end0
      exact ⟨⟨_, rfl⟩, .inl ⟨_, rfl, hJs⟩⟩
end Go.Proofs.YtmajiilehdpdmaaGreatDoor

namespace Go.Proofs.YtmajiilehdpdmaaGreatDoor
open Go Go.RowKit Go.Shelf Go.Proofs Go.Proofs.YtmajiilehdpdmaaGreatDoor.Sx
set_option linter.unusedVariables false
set_option linter.unusedSimpArgs false
def lastLe (l : List (List D0)) (v : Int) : Nat → Int
  | 0 => -1
  | j + 1 => if stepFrom (l.getD j []) ≤ v then j else lastLe l v j
def lastI (l : List Nat) : Int := match l.getLast? with
  | some x => (x : Nat)
  | none => -1
theorem lastI_snoc (l : List Nat) (x : Nat) : lastI (l ++ [x]) = (x : Nat) := by simp [lastI]
def stepAt (l : List (List D0)) : List D0 → Int
  | [.bool b, .ints z] => if stepsOk l && intOk [.bool b, .ints z] then lastLe l (val z) l.length else -1
  | _ => -1
theorem upto_le (f : Nat → Bool) : ∀ n, ∃ K, K ≤ n ∧ (∀ j, j < K → f j = true) ∧ (K < n → f K = false)
  | 0 => ⟨0, Nat.le_refl _, fun j h => absurd h (by omega), fun h => absurd h (by omega)⟩
  | n + 1 => by
    obtain ⟨K, h1, h2, h3⟩ := upto_le f n
    rcases Nat.lt_or_ge K n with h | h
    · exact ⟨K, by omega, h2, fun _ => h3 h⟩
    · have : K = n := by omega
      subst this
      cases hf : f K with
      | true => exact ⟨K + 1, Nat.le_refl _, fun j hj => by
          rcases Nat.lt_or_ge j K with h | h
          · exact h2 j h
          · have : j = K := by omega
            rw [this, hf], fun h => absurd h (by omega)⟩
      | false => exact ⟨K, by omega, h2, fun _ => hf⟩
theorem steps_up {l : List (List D0)} (hall : ∀ i < l.length, stepOk l i = true) : ∀ (i j : Nat), i ≤ j → j < l.length → stepFrom (l.getD i []) ≤ stepFrom (l.getD j []) := by
  intro i j hij
  induction j with
  | zero => intro _; have : i = 0 := by omega
            subst this; omega
  | succ j ih =>
    intro hj
    rcases Nat.lt_or_ge i (j + 1) with h | h
    · have h1 := ih (by omega) (by omega)
      have h2 := hall (j + 1) hj
      simp only [stepOk, Bool.and_eq_true, Bool.not_eq_true', Bool.and_eq_false_iff, decide_eq_false_iff_not, Nat.add_sub_cancel] at h2
      have h3 := h2.2
      rcases h3 with h3 | h3
      · omega
      · omega
    · have : i = j + 1 := by omega
      subst this; omega
theorem lastLe_range {l : List (List D0)} {n K : Nat} {v : Int} (hl : l.length = n) (hK : K ≤ n) (hK1 : ∀ j, j < K → stepFrom (l.getD j []) ≤ v) (hK2 : K < n → v < stepFrom (l.getD K [])) (h1 : 1 ≤ l.length) (h0 : stepFrom (l.getD 0 []) = 0) (hall : ∀ i < l.length, stepOk l i = true) :
    lastI (List.range K) = lastLe l v l.length := by
  have hi : lastI (List.range K) = (K : Int) - 1 := by
    cases K with
    | zero => rfl
    | succ K => rw [List.range_succ, lastI_snoc]; omega
  have key : ∀ j, K ≤ j → j ≤ l.length → lastLe l v j = (K : Int) - 1 := by
    intro j hKj
    induction j with
    | zero => intro _; have : K = 0 := by omega
              subst this; rfl
    | succ j ih =>
      intro hj
      rcases Nat.lt_or_ge K (j + 1) with h | h
      · have h2 := steps_up hall K j (by omega) (by omega)
        have h3 := hK2 (by omega)
        rw [lastLe, if_neg (by omega)]
        exact ih (by omega) (by omega)
      · have : K = j + 1 := by omega
        subst this
        rw [lastLe, if_pos (hK1 j (by omega))]
        omega
  rw [hi, key _ (by omega) (Nat.le_refl _)]
theorem spec_IntAbs_n {w : World} {xs : List Value} {b : Bool} {z : List Int} (h : Reps w xs [.bool b, .ints z]) (hok : intOk [.bool b, .ints z] = true) (hz : Canon z) :
    Ret P n_spec_IntAbs [.agg ⟨xs⟩] w fun v w' => ∃ vs f, v = .agg ⟨vs⟩ ∧ Owns w' w.heap.size vs (enc (val z)) f ∧ f.Nodup ∧ Ext w w' := by
  have hr := h
  obtain ⟨a0, ap, an, ac, az, rfl, hd, ha⟩ := open_Signed h rfl
  cases hd
  refine spec_IntAbs_ret ?_
  unfold spec_IntAbs
  intro r w1 hn1 r1 w2 hn2
  have e1 := hn1.r_eq; have e2 := hn2.r_eq; have z1 := hn1.size; have z2 := hn2.size
  have X := hn1.ext.trans hn2.ext
  have q0 := hn1.blk.ext hn2.ext; have q1 := hn2.blk
  refine ⟨_, _, _, _, q0.loadA0 (by kernel_rfl), ?_⟩
  refine Ret.at (spec_IntOk_c (hr.ext X) rfl) ?_
  rintro v w3 ⟨hv, y3⟩
  subst hv
  rw [hok]
  refine ⟨_, rfl, ifN (fun hh => absurd hh (by simp)) (fun _ => ⟨_, _, _, (q0.ext y3).loadAt 1 rfl (by kernel_rfl) rfl, ?_⟩)⟩
  refine Ret.at (spec_l04Make_c (ha.ext (X.trans y3)) hz.1) ?_
  rintro v w4 ⟨bq, p5, n5, c5, hv, hbq, own5, y4⟩
  subst hv
  have hv0 := val_nonneg hz.1
  have hlen : z.length ≤ 50 := by
    obtain ⟨_, b', z', he, _, hl⟩ := intOk_enc hok
    simp only [List.cons.injEq, D0.bool.injEq, D0.ints.injEq, and_true] at he
    obtain ⟨_, rfl⟩ := he
    exact hl
  have hdz : digs (val z).toNat = z := digs_val hz
  have hcap : capL (digs (val z).toNat) = digs (val z).natAbs := by
    rw [show (val z).natAbs = (val z).toNat by omega, hdz]
    unfold capL
    rw [if_pos hlen]
  rw [hcap] at own5
  have hbq' : bq = decide (val z < 0) := by rw [hbq, Bool.false_and, decide_eq_false (by omega)]
  subst hbq'
  have l3 := y3.le
  have o5 : Owns w4 w3.heap.size [.bool (decide (val z < 0)), .slice p5 n5 c5] (enc (val z)) (p5.map (·.block)).toList := Owns.int2 (b := decide (val z < 0)) own5
  obtain ⟨W', st', hb', ch, _⟩ := ((q1.ext y3).ext y4).storeA0 (P := P) (t := T_impl_Signed) (xs := [.bool (decide (val z < 0)), .slice p5 n5 c5]) (by kernel_rfl) rfl (by simp [Value.oneCell'])
  exact ⟨_, _, _, _, rfl, W', st', _, _, _, _, hb'.loadA0 (by kernel_rfl), _, _, rfl, (o5.chg1 ch (by omega)).mono (by omega), nodup_opt p5, ((X.trans y3).trans y4).chg ch (by simp; omega)⟩
theorem spec_StepAt_c {w : World} {p : Option Addr} {n c : Nat} {l : List (List D0)} {xs : List Value} {dy : List D0} (h : RowsR w 4 p n c l) (hc : ∀ x ∈ l, x.map D0.code = [.int, .bool, .ints, .int]) (g : Reps w xs dy) (gc : dy.map D0.code = [.bool, .ints]) :
    Ret P n_spec_StepAt [.slice p n c, .agg ⟨xs⟩] w fun v w' => v = .int .i64 (stepAt l dy) ∧ Ext w w' := by
  have hln := h.1
  have gr := g
  obtain ⟨b0, q, m, d, z, rfl, rfl, hz⟩ := open_Signed g gc
  refine spec_StepAt_ret ?_
  unfold spec_StepAt
  intro r w1 hn1
  have q0 := hn1.blk
  refine Ret.at (spec_StepsOk_c (h.ext hn1.ext) hc) ?_
  rintro v w2 ⟨hv, y2⟩
  subst hv
  have X2 := hn1.ext.trans y2
  refine ⟨_, rfl, ifN (fun hno => ifT ⟨by simp only [stepAt, hno, Bool.false_and, Bool.false_eq_true, if_false], X2⟩) (fun hs => ⟨_, _, _, _, (q0.ext y2).loadA0 (by kernel_rfl), ?_⟩)⟩
  refine Ret.at (spec_IntOk_c (gr.ext X2) rfl) ?_
  rintro v w3 ⟨hv, y3⟩
  subst hv
  have X3 := X2.trans y3
  refine ⟨_, rfl, ifN (fun hno => ⟨by simp only [stepAt, hno, Bool.and_false, Bool.false_eq_true, if_false], X3⟩) (fun hi => ?_)⟩
  have hval : stepAt l [.bool b0, .ints z] = lastLe l (val z) l.length := by simp only [stepAt, hs, hi, Bool.and_self, if_true]
  rw [hval]
  obtain ⟨hcan, hz50⟩ : Canon z ∧ z.length ≤ 50 := by
    obtain ⟨_, b', z', he, hcan, hl⟩ := intOk_enc hi
    simp only [List.cons.injEq, D0.bool.injEq, D0.ints.injEq, and_true] at he
    obtain ⟨_, rfl⟩ := he
    exact ⟨hcan, hl⟩
  have hv0 := val_nonneg hcan.1
  have hdz : digs (val z).toNat = z := digs_val hcan
  have hokz : intOk (enc (val z)) = true := enc_ok (by rw [show (val z).natAbs = (val z).toNat by omega, hdz]; exact hz50)
  simp only [stepsOk, Bool.and_eq_true, decide_eq_true_eq, List.all_eq_true, List.mem_range] at hs
  obtain ⟨⟨⟨hn1', hn8⟩, hz0⟩, hall⟩ := hs
  obtain ⟨b, off, hp, hrows⟩ := h.2.2.2 (by omega)
  subst hp
  have hF : ∀ j, j < n → 0 ≤ stepFrom (l.getD j []) ∧ stepFrom (l.getD j []) ≤ 1000000000 := fun j hj => by
    have := hall j (by omega)
    simp only [stepOk, Bool.and_eq_true, decide_eq_true_eq] at this
    omega
  have first : ∀ i (hi : i < l.length), ∀ W, Ext w W → Loads P T_int (((⟨b, off, none⟩ : Addr).add (i * 4)).add 0) (.int .i64 (stepFrom (l.getD i []))) W := by
    intro i hi W hW
    obtain ⟨cs, hk, hr, hsg⟩ := hrows i _ (List.getElem?_eq_getElem hi)
    obtain ⟨a0, a1, a2p, a2n, a2c, a2z, a3, rfl, hd, _⟩ := open_Step hr (hc _ (List.getElem_mem hi))
    rw [getD_lt hi, hd]
    exact (hsg.ext hW).loadAt 0 (by simp [Addr.add]) (by kernel_rfl) rfl
  unfold spec_StepAt_j0
  refine exW ⟨by omega, by omega⟩ ⟨fun k wr => ∃ j : Nat, k = j ∧ j < n ∧ Ext w3 wr ∧ lastLe l (val z) l.length = lastLe l (val z) (j + 1), fun k _ => k.toNat, ⟨n - 1, by omega, by omega, Ext.refl _, by rw [hln, show n - 1 + 1 = n by omega]⟩, ?_⟩
  intro junk wr k ⟨j, hkj, hj, hx, hlast⟩
  subst hkj
  have XR := X3.trans hx
  have D := Ext.drew wr
  have XD := XR.trans D
  obtain ⟨f0, f1⟩ := hF j hj
  refine ⟨⟨by omega, by omega⟩, _, fun W hW => first j (by omega) W (XD.trans hW), ?_⟩
  refine Ret.at (spec_IntOf_c (n := stepFrom (l.getD j [])) (by omega) (by omega)) ?_
  rintro v w4 ⟨vs4, f4, hv, ho4, _, y4⟩
  subst hv
  obtain ⟨g0, gp, gn, gc', gz, rfl, _, _⟩ := open_Signed ho4.reps (enc_code _)
  refine ⟨_, _, _, _, rfl, y4, _, _, _, _, fun W hW => ((((q0.ext y2).ext y3).ext hx).ext (D.trans hW)).loadA0 (by kernel_rfl), ?_⟩
  refine Ret.at (spec_IntAbs_n (gr.ext (XD.trans y4)) hi hcan) ?_
  rintro v w5 ⟨vs5, f5, hv, ho5, _, y5⟩
  subst hv
  obtain ⟨u0, up, un, uc, uz, rfl, _, _⟩ := open_Signed ho5.reps (enc_code _)
  refine ⟨_, _, _, _, rfl, ?_⟩
  refine Ret.at (spec_IntCmp_c (ho4.reps.ext y5) ho5.reps (enc_code _) (enc_code _)) ?_
  rintro v w6 ⟨hv, y6⟩
  subst hv
  have hokf : intOk (enc (stepFrom (l.getD j []))) = true := by
    have h9 : (1000000000 : Nat) ^ 2 = 1000000000000000000 := by decide
    have h8 := digs_len (n := (stepFrom (l.getD j [])).natAbs) 2 (by omega)
    exact enc_ok (by omega)
  rw [icmp_enc hokf hokz]
  have Y := (D.trans y4).trans (y5.trans y6)
  refine ⟨_, rfl, ifD (fun hlt => ?_) (fun hge => ⟨?_, XR.trans Y⟩)⟩
  · have hgt : 0 < stepFrom (l.getD j []) - val z := by
      have := hlt; unfold sgn at this; split at this <;> (try split at this) <;> omega
    have hj0 : j ≠ 0 := fun e => by subst e; omega
    refine exW ⟨by omega, by omega⟩ ⟨⟨j - 1, by omega, by omega, hx.trans Y, ?_⟩, ?_⟩
    · rw [hlast, lastLe, if_neg (by omega), show j - 1 + 1 = j by omega]
    · show ((j : Int) - 1).toNat < (j : Int).toNat
      omega
  · have hle : ¬ 0 < stepFrom (l.getD j []) - val z := fun h => hge (by unfold sgn; split <;> (try split) <;> omega)
    rw [hlast, lastLe, if_pos (by omega)]
end Go.Proofs.YtmajiilehdpdmaaGreatDoor

namespace Go.Proofs.YtmajiilehdpdmaaGreatDoor.Sx
open Go Go.RowKit
set_option linter.unusedVariables false
set_option linter.unusedSimpArgs false
def noDefer : Op → Bool
  | .defer _ => false
  | _ => true
def plainC : Code → Bool
  | .region _ ops _ => ops.toList.all fun o => noDefer o.op
  | .seq a b => plainC a && plainC b
  | .cond _ a b => plainC a && plainC b
  | .block _ c => plainC c
  | .loop c => plainC c
  | .scope c => plainC c
  | .rangeFunc _ _ _ _ => false
  | _ => true
def rfBody : Code → Option Code
  | .rangeFunc _ _ _ b => some b
  | .seq a b => match rfBody a with
    | some x => some x
    | none => rfBody b
  | .cond _ a b => match rfBody a with
    | some x => some x
    | none => rfBody b
  | .block _ c => rfBody c
  | _ => none
section
variable {P : Program} {N n l : Nat}
theorem op_round {o : Oper} {a : Act} {w : World} {K : Act → World → Prop} {Q : Exit → Act → World → Prop} (hd : noDefer o.op = true) (hQ : ¬ LetsOut Q) (h : o.wp P a w K Q) : o.wpIn (Fence.wide.inRound l) n P a w K Q := by
  refine ⟨fun f _ => trivial, ?_⟩
  have hs : o.semAt (Fence.wide.inRound l).round a.eval = execOp a.eval o := by
    refine Oper.semAt_eq _ _ _ (fun c e => ?_)
    rw [e] at hd; cases hd
  rw [hs]
  unfold Oper.wp at h
  revert h
  generalize (execOp a.eval o).run P w = r
  intro h
  match r, h with
  | .ok (.value v) w', h => exact h
  | .ok .skip w', h => exact h
  | .ok (.defer d) w', h => exact h
  | .ok (.enter f args) w', h => exact ⟨fun e => by simp [Fence.wide, Fence.inRound] at e, CallsIn.inRound l (callsIn_wide.2 h)⟩
  | .ok (.row row args) w', h =>
    refine ⟨fun e => by simp [Fence.wide, Fence.inRound] at e, fun c cs _ => ?_⟩
    obtain ⟨v, w2, r, s⟩ := h c cs
    refine ⟨v, w2, r, ?_⟩
    exact stepsIn_wide.2 s
  | .halt (.panic v) w', h => exact h
theorem wpOp_round {ops : Array Oper} {i : Nat} {a : Act} {w : World} {K K' : Act → World → Prop} {Q : Exit → Act → World → Prop} (hd : ∀ o ∈ ops.toList, noDefer o.op = true) (hQ : ¬ LetsOut Q) (hK : ∀ a w, K a w → K' a w) (h : wpOp P ops Q i K a w) : wpOpIn (Fence.wide.inRound l) n P ops Q i K' a w := by
  unfold wpOp at h
  unfold wpOpIn
  cases ho : ops[i]? with
  | none => rw [ho] at h; exact hK _ _ h
  | some o =>
    rw [ho] at h
    simp only at h ⊢
    split
    · rename_i hw
      rw [if_pos hw] at h
      rcases h with h | h
      · have hm : o ∈ ops.toList := by
          have := (Array.getElem?_eq_some_iff.1 ho).2
          rw [← this]; exact Array.getElem_mem_toList _
        exact Oper.wpIn_mono hK (op_round (hd o hm) hQ h)
      · exact absurd h.2 hQ
    · rename_i hw
      rw [if_neg hw] at h
      exact ⟨fun _ _ => trivial, hK _ _ h⟩
theorem ops_round {ops : Array Oper} {Q : Exit → Act → World → Prop} (hd : ∀ o ∈ ops.toList, noDefer o.op = true) (hQ : ¬ LetsOut Q) : ∀ (R : List Nat) (a : Act) (w : World), wpOps P ops Q R a w → wpOpsIn (Fence.wide.inRound l) n P ops Q R a w
  | [], a, w, h => h
  | i :: R, a, w, h => by
    rw [wpOps_cons] at h
    rw [wpOpsIn_cons]
    exact wpOp_round hd hQ (fun a w h => ops_round hd hQ R a w h) h
theorem any_round {md : Region.Mode} {ops : Array Oper} {Q : Exit → Act → World → Prop} (hd : ∀ o ∈ ops.toList, noDefer o.op = true) (hQ : ¬ LetsOut Q) : ∀ (fuel : Nat) (listed : Array Bool) (a : Act) (w : World), wpAny P md ops Q fuel listed a w → wpAnyIn (Fence.wide.inRound l) n P md ops Q fuel listed a w
  | 0, listed, a, w, h => h
  | fuel + 1, listed, a, w, h => ⟨h.1, fun i hi => wpOp_round hd hQ (fun a w h => any_round hd hQ fuel _ a w h) (h.2 i hi)⟩
theorem nd_of {id : Nat} {ops : Array Oper} {d : Bool} (h : plainC (.region id ops d) = true) : ∀ o ∈ ops.toList, noDefer o.op = true := by
  unfold plainC at h
  rw [List.all_eq_true] at h
  exact h
theorem out_then {K : Act → World → Prop} {Q : Exit → Act → World → Prop} (h : ¬ LetsOut Q) : ¬ LetsOut (Exit.then K Q) := fun ⟨a, w, k⟩ => h ⟨a, w, k⟩
theorem out_block {id : Nat} {Q : Exit → Act → World → Prop} (h : ¬ LetsOut Q) : ¬ LetsOut (Exit.inBlock id Q) := fun ⟨a, w, k⟩ => h ⟨a, w, k⟩
theorem wpIn_of_semA : ∀ (c : Code) (Q : QF) (Q' : Exit → Act → World → Prop) (φ : Fr) (a : Act) (w : World), Fits N φ a → (∀ e φ' a' w', Fits N φ' a' → Q e φ' w' → Q' e a' w') →
    plainC c = true → ¬ LetsOut Q' → semA P N c Q φ w → c.wpIn (Fence.wide.inRound l) n P Q' a w
  | .skip, Q, Q', φ, a, w, hf, hQ, hp, ho, h => wpIn_skip (hQ _ _ _ _ hf h)
  | .region id ops draw, Q, Q', φ, a, w, hf, hQ, hp, ho, h => by
    cases draw with
    | false => exact wpIn_region (ops_round (nd_of hp) ho _ _ _ (ops_of_sqP (fun φ a w hf hk => hQ _ _ _ _ hf hk) _ φ a w hf h))
    | true =>
      obtain ⟨hm, h⟩ := h
      refine wpIn_region_any hm (any_round (nd_of hp) ho _ _ _ _ ?_)
      rcases h with ⟨hg, h⟩ | ⟨hg, h⟩
      case inr =>
        simp only [goodF, Bool.and_eq_true, List.all_eq_true, List.mem_range, List.any_eq_true] at hg
        obtain ⟨⟨⟨⟨⟨g1, g2⟩, g3⟩, g4⟩, g5⟩, g6⟩ := hg
        have hsel : ∀ (j : Nat) (o : Oper), ops[j]? = some o → notSel o = true ∧ ∀ e ∈ o.after.toList, Region.binds .any e = true → e.on < j := by
          intro j o ho
          have := g1 j (Array.getElem?_eq_some_iff.1 ho).1
          rw [ho] at this
          simp only [Bool.and_eq_true, List.all_eq_true, Bool.or_eq_true, Bool.not_eq_true'] at this
          refine ⟨this.1, fun e he hb => ?_⟩
          rcases this.2 e he with h | h
          · rw [hb] at h; cases h
          · simpa [Nat.blt_eq] using h
        have hfo : ∀ i ∈ flo P ops, ∃ o x, ops[i]? = some o ∧ fobj P o = some x := by
          intro i hi
          have := g2 i hi
          split at this
          · rename_i x hx
            obtain ⟨o, ho, hx⟩ := Option.bind_eq_some_iff.1 hx
            exact ⟨o, x, ho, hx⟩
          · cases this
        refine any_of_dF (fun j o ho => (hsel j o ho).1) (fun j o ho => (hsel j o ho).2) hfo (K := Q .normal) (fun φ a w hf hk => hQ _ _ _ _ hf hk) _ (piF P ops) _ (fun _ => w.drew) _ φ a w.drew (Nat.eq_of_beq_eq_true g3) (by simp) (pairsB_spec g6) ?_ (by simp) ?_ ?_ hf ?_ h
        · intro i
          constructor
          · intro hi
            have hlt : i < ops.size := by have := g5 i hi; simpa [Nat.blt_eq] using this
            exact ⟨hlt, by simp [hlt]⟩
          · intro hi
            obtain ⟨x, hx, hb⟩ := g4 i hi.1
            rw [Nat.eq_of_beq_eq_true hb]; exact hx
        · intro i k _ hk
          have := (List.getElem?_eq_some_iff.1 (fidx_spec hk)).1
          simp [this]
        · intro k o ho hl
          have hk : k < ops.size := (Array.getElem?_eq_some_iff.1 ho).1
          simp [hk] at hl
        · intro i _ o _ _; exact Ext.refl _
      obtain ⟨S, h⟩ := h
      refine any_of_drP hg (S := S) (K := fun _ => Q .normal) (fun _ φ a w hf hk => hQ _ _ _ _ hf hk) _ (List.range ops.size) _ (fun _ => w.drew) φ a w.drew (by simp) (by simp) List.pairwise_lt_range ?_ ?_ hf ?_ h
      · intro i
        simp only [List.mem_range]
        constructor
        · intro hi; exact ⟨hi, by simp [hi]⟩
        · exact fun h => h.1
      · intro k o ho hl
        have hk : k < ops.size := (Array.getElem?_eq_some_iff.1 ho).1
        simp [hk] at hl
      · intro i _ o _ _; exact EX.refl _ _
  | .seq x y, Q, Q', φ, a, w, hf, hQ, hp, ho, h => by
    rw [plainC, Bool.and_eq_true] at hp
    refine wpIn_seq (wpIn_of_semA x _ _ φ a w hf (fun e φ' a' w' hf' hq => ?_) hp.1 (out_then ho) h)
    cases e with
    | normal => exact wpIn_of_semA y Q Q' φ' a' w' hf' hQ hp.2 ho hq
    | _ => exact hQ _ _ _ _ hf' hq
  | .cond c x y, Q, Q', φ, a, w, hf, hQ, hp, ho, h => by
    obtain ⟨b, hb, h1, h2⟩ := h
    rw [plainC, Bool.and_eq_true] at hp
    refine wpIn_cond_split (t := b) (by rw [hf.eval]; exact hb) (fun e => wpIn_of_semA x Q Q' φ a w hf hQ hp.1 ho (h1 e)) (fun e => wpIn_of_semA y Q Q' φ a w hf hQ hp.2 ho (h2 e))
  | .block id c, Q, Q', φ, a, w, hf, hQ, hp, ho, h => by
    refine wpIn_block (wpIn_of_semA c _ _ φ a w hf (fun e φ' a' w' hf' hq => ?_) hp (out_block ho) h)
    cases e with
    | exit id' =>
      simp only [blockQ] at hq
      simp only [Exit.inBlock]
      by_cases hid : id' = id
      · subst hid
        rw [if_pos rfl]
        have : Nat.beq id' id' = true := by simp
        rw [this] at hq
        exact hQ _ _ _ _ hf' hq
      · rw [if_neg hid]
        have : Nat.beq id' id = false := by
          cases hb : Nat.beq id' id with
          | false => rfl
          | true => exact absurd (Nat.eq_of_beq_eq_true hb) hid
        rw [this] at hq
        exact hQ _ _ _ _ hf' hq
    | _ => exact hQ _ _ _ _ hf' hq
  | .loop c, Q, Q', φ, a, w, hf, hQ, hp, ho, h => by
    obtain ⟨J, μ, h0, hr⟩ := h
    refine wpIn_loop (fun a w => ∃ ψ, Fits N ψ a ∧ J ψ w ∧ ∀ n, n ∉ dstsOf c → ψ n = φ n) (fun a w => μ (fun n => a.tmps.getD n undef) w) ⟨φ, hf, h0, fun _ _ => rfl⟩ ?_
    intro a1 w1 ⟨ψ, hf1, hJ, hψ⟩
    have eqf : ∀ {ψ : Fr} {a : Act}, Fits N ψ a → (fun n => a.tmps.getD n undef) = ψ := fun hf => funext hf.get
    have hb := hr ψ w1 hJ hψ
    have hb2 : semA P N c (fun e φ' w' => (∀ n, n ∉ dstsOf c → φ' n = ψ n) ∧ thenQ (fun φ' w' => J φ' w' ∧ μ φ' w' < μ ψ w1) Q e φ' w') ψ w1 :=
      semA_frame c _ _ ψ w1 (fun e φ' w' hfr hq => ⟨hfr, hq⟩) hb
    refine wpIn_of_semA c _ _ ψ a1 w1 hf1 (fun e φ' a' w' hf' hq => ?_) hp (out_then ho) hb2
    obtain ⟨hfr, hq⟩ := hq
    cases e with
    | normal =>
      refine ⟨⟨φ', hf', hq.1, fun n hn => by rw [hfr n hn, hψ n hn]⟩, ?_⟩
      rw [eqf hf', eqf hf1]
      exact hq.2
    | _ => exact hQ _ _ _ _ hf' hq
  | .exit id, Q, Q', φ, a, w, hf, hQ, hp, ho, h => wpIn_exit (hQ _ _ _ _ hf h)
  | .ret, Q, Q', φ, a, w, hf, hQ, hp, ho, h => wpIn_ret (hQ _ _ _ _ hf h)
  | .label _, Q, Q', φ, a, w, hf, hQ, hp, ho, h => wpIn_label (hQ _ _ _ _ hf h)
  | .goto _, _, _, _, _, _, _, _, _, _, hs => hs.elim
  | .scope _, _, _, _, _, _, _, _, _, _, hs => hs.elim
  | .rangeFunc _ _ _ _, _, _, _, _, _, _, _, _, _, hs => hs.elim
  | .refuse _, _, _, _, _, _, _, _, _, _, hs => hs.elim
def bodyQN (R : Value → World → Prop) : QF
  | .normal, φ, w => R undef w
  | _, _, _ => False
def bsem (P : Program) (fn : Func) (car : Nat → List (Nat × VS)) (args : List Value) (R : Value → World → Prop) (w : World) : Prop :=
  match fn.body.bind rfBody with
  | some c => sem P fn.ntmps car c (bodyQN R) (initF args) w
  | none => False
theorem fits_tmps {N : Nat} {vs : List Value} (h : vs.length = N) : Fits N (initF vs) { tmps := ⟨vs⟩, defers := [] } := by
  refine ⟨by simpa using h, fun n => ?_, rfl⟩
  simp [initF, Array.getD_eq_getD_getElem?, List.getD_eq_getElem?_getD]
theorem wpIn_of_bsem {fn : Func} {c : Code} {car : Nat → List (Nat × VS)} {args : List Value} {R : Value → World → Prop} {w : World} {Q' : Exit → Act → World → Prop}
    (hb : fn.body.bind rfBody = some c) (hlen : args.length = fn.ntmps) (hp : plainC c = true) (ho : ¬ LetsOut Q') (hR : ∀ a w, R undef w → Q' .normal a w) (h : bsem P fn car args R w) :
    c.wpIn (Fence.wide.inRound l) n P Q' { tmps := ⟨args⟩, defers := [] } w := by
  unfold bsem at h
  rw [hb] at h
  refine wpIn_of_semA c (bodyQN R) Q' (initF args) _ w (fits_tmps hlen) (fun e φ a w' _ hq => ?_) hp ho (semA_of_sem c _ _ _ h)
  cases e with
  | normal => exact hR _ _ hq
  | _ => exact hq.elim
end
end Go.Proofs.YtmajiilehdpdmaaGreatDoor.Sx

namespace Go.Proofs.YtmajiilehdpdmaaGreatDoor
open Go Go.Proofs.YtmajiilehdpdmaaGreatDoor.Sx
set_option linter.unusedVariables false
set_option maxRecDepth 100000
def impl_FeeExact_body_j0 (q6 : Nat) (q7 : Nat) (q9 : Nat) (end_p : Option Addr) (end_n : Nat) (end_c : Nat) (W : World) (R : Value → World → Prop) : Prop :=
 ∃ (t66 : Int), Loads P 3 ((⟨q9, 0, none⟩ : Addr).add 0) (.int .i64 t66) W ∧ Calls P 64 ⟨[(.int .i64 t66)]⟩ W fun e_3 wv_3 =>
 ∃ (t67_p : Option Addr) (t67_n : Nat) (t67_c : Nat), e_3 = .returned (.slice t67_p t67_n t67_c) ∧
 Calls P 65 ⟨[(.slice end_p end_n end_c), (.slice t67_p t67_n t67_c)]⟩ wv_3 fun e_4 wv_4 =>
 ∃ (t68_p : Option Addr) (t68_n : Nat) (t68_c : Nat), e_4 = .returned (.slice t68_p t68_n t68_c) ∧
 ∀ (r : Nat) (wv_5 : World), New wv_4 (.cells ⟨[(.int .i64 1)]⟩ 3 (0, 0)) r wv_5 →
 ∀ (r_1 : Nat) (wv_6 : World), New wv_5 (.cells ⟨[(.bool false), (.slice none 0 0), (.slice none 0 0)]⟩ 34 (0, 0)) r_1 wv_6 →
 ∃ wv_7, Stores P 34 ⟨r_1, 0, none⟩ (.agg #[(.bool false), (.slice t68_p t68_n t68_c), (.slice (some ⟨r, 0, none⟩) 1 1)]) wv_6 wv_7 ∧
 ∃ (t730 : Bool) (t731_p : Option Addr) (t731_n : Nat) (t731_c : Nat) (t732_p : Option Addr) (t732_n : Nat) (t732_c : Nat), (∀ wv_8, Ext wv_7.drew wv_8 → Loads P 34 ⟨r_1, 0, none⟩ (.agg #[(.bool t730), (.slice t731_p t731_n t731_c), (.slice t732_p t732_n t732_c)]) wv_8) ∧ ∃ (t750 : Bool) (t751_p : Option Addr) (t751_n : Nat) (t751_c : Nat) (t752 : Int), (∀ wv_9, Ext wv_7.drew wv_9 → Loads P 60 ((⟨q9, 0, none⟩ : Addr).add 1) (.agg #[(.bool t750), (.slice t751_p t751_n t751_c), (.int .i64 t752)]) wv_9) ∧ ∀ (ss : List (Option Nat)) (wv_10 : World), Fl [.cells ⟨[(.bool false), (.slice none 0 0), (.slice none 0 0)]⟩ 34 (0, 0)] [none] wv_7.drew ss wv_10 →
 Calls P 67 ⟨[(.agg #[(.bool t750), (.slice t751_p t751_n t751_c), (.int .i64 t752)])]⟩ wv_10 fun e_5 wv_11 =>
 ∃ (t760 : Bool) (t761_p : Option Addr) (t761_n : Nat) (t761_c : Nat) (t762_p : Option Addr) (t762_n : Nat) (t762_c : Nat), e_5 = .returned (.agg #[(.bool t760), (.slice t761_p t761_n t761_c), (.slice t762_p t762_n t762_c)]) ∧
 Ext wv_10 wv_11 ∧ ∀ (ss_1 : List (Option Nat)) (wv_12 : World), Fl [.cells ⟨[(.bool false), (.slice none 0 0), (.slice none 0 0)]⟩ 34 (0, 0)] ss wv_11 ss_1 wv_12 →
 Calls P 66 ⟨[(.agg #[(.bool t730), (.slice t731_p t731_n t731_c), (.slice t732_p t732_n t732_c)]), (.agg #[(.bool t760), (.slice t761_p t761_n t761_c), (.slice t762_p t762_n t762_c)])]⟩ wv_12 fun e_6 wv_13 =>
 ∃ (t770 : Bool) (t771_p : Option Addr) (t771_n : Nat) (t771_c : Nat) (t772_p : Option Addr) (t772_n : Nat) (t772_c : Nat) (t77 : Bool), e_6 = .returned (.tuple #[(.agg #[(.bool t770), (.slice t771_p t771_n t771_c), (.slice t772_p t772_n t772_c)]), (.bool t77)]) ∧
 ∀ (ss_2 : List (Option Nat)) (wv_14 : World) (r_2 : Nat), Fl [.cells ⟨[(.bool false), (.slice none 0 0), (.slice none 0 0)]⟩ 34 (0, 0)] ss_1 wv_13 ss_2 wv_14 → ss_2[0]? = some (some r_2) →
 ∃ wv_15, Stores P 34 ⟨r_2, 0, none⟩ (.agg #[(.bool t770), (.slice t771_p t771_n t771_c), (.slice t772_p t772_n t772_c)]) wv_14 wv_15 ∧
 ∃ (t810 : Bool) (t811_p : Option Addr) (t811_n : Nat) (t811_c : Nat) (t812_p : Option Addr) (t812_n : Nat) (t812_c : Nat), Loads P 34 ⟨q6, 0, none⟩ (.agg #[(.bool t810), (.slice t811_p t811_n t811_c), (.slice t812_p t812_n t812_c)]) wv_15 ∧ ∃ (t820 : Bool) (t821_p : Option Addr) (t821_n : Nat) (t821_c : Nat) (t822_p : Option Addr) (t822_n : Nat) (t822_c : Nat), Loads P 34 ⟨r_2, 0, none⟩ (.agg #[(.bool t820), (.slice t821_p t821_n t821_c), (.slice t822_p t822_n t822_c)]) wv_15 ∧ Calls P 68 ⟨[(.agg #[(.bool t810), (.slice t811_p t811_n t811_c), (.slice t812_p t812_n t812_c)]), (.agg #[(.bool t820), (.slice t821_p t821_n t821_c), (.slice t822_p t822_n t822_c)])]⟩ wv_15 fun e_7 wv_16 =>
 ∃ (t830 : Bool) (t831_p : Option Addr) (t831_n : Nat) (t831_c : Nat) (t832_p : Option Addr) (t832_n : Nat) (t832_c : Nat) (t83 : Bool), e_7 = .returned (.tuple #[(.agg #[(.bool t830), (.slice t831_p t831_n t831_c), (.slice t832_p t832_n t832_c)]), (.bool t83)]) ∧
 ∀ (r_3 : Nat) (wv_17 : World), New wv_16 (.cells ⟨[(.bool false), (.slice none 0 0), (.slice none 0 0)]⟩ 34 (0, 0)) r_3 wv_17 →
 ∃ wv_18, Stores P 34 ⟨r_3, 0, none⟩ (.agg #[(.bool t830), (.slice t831_p t831_n t831_c), (.slice t832_p t832_n t832_c)]) wv_17 wv_18 ∧
 ∃ (t860 : Bool) (t861_p : Option Addr) (t861_n : Nat) (t861_c : Nat) (t862_p : Option Addr) (t862_n : Nat) (t862_c : Nat), Loads P 34 ⟨r_3, 0, none⟩ (.agg #[(.bool t860), (.slice t861_p t861_n t861_c), (.slice t862_p t862_n t862_c)]) wv_18 ∧ ∃ (t87 : Bool), Loads P 4 ⟨q7, 0, none⟩ (.bool t87) wv_18 ∧ (t87 = true →
 (t77 = true →
 ∃ wv_19, Stores P 34 ⟨q6, 0, none⟩ (.agg #[(.bool t860), (.slice t861_p t861_n t861_c), (.slice t862_p t862_n t862_c)]) wv_18 wv_19 ∧
 ∃ wv_20, Stores P 4 ⟨q7, 0, none⟩ (.bool t83) wv_19 wv_20 ∧
 R undef wv_20) ∧
 (t77 = false →
 ∃ wv_21, Stores P 34 ⟨q6, 0, none⟩ (.agg #[(.bool t860), (.slice t861_p t861_n t861_c), (.slice t862_p t862_n t862_c)]) wv_18 wv_21 ∧
 ∃ wv_22, Stores P 4 ⟨q7, 0, none⟩ (.bool false) wv_21 wv_22 ∧
 R undef wv_22)) ∧
 (t87 = false →
 (false = true →
 ∃ wv_23, Stores P 34 ⟨q6, 0, none⟩ (.agg #[(.bool t860), (.slice t861_p t861_n t861_c), (.slice t862_p t862_n t862_c)]) wv_18 wv_23 ∧
 ∃ wv_24, Stores P 4 ⟨q7, 0, none⟩ (.bool t83) wv_23 wv_24 ∧
 R undef wv_24) ∧
 (false = false →
 ∃ wv_25, Stores P 34 ⟨q6, 0, none⟩ (.agg #[(.bool t860), (.slice t861_p t861_n t861_c), (.slice t862_p t862_n t862_c)]) wv_18 wv_25 ∧
 ∃ wv_26, Stores P 4 ⟨q7, 0, none⟩ (.bool false) wv_25 wv_26 ∧
 R undef wv_26))
def impl_FeeExact_body (q2 : Nat) (q3 : Nat) (q6 : Nat) (q7 : Nat) (i8 : Int) (q9 : Nat) (z : Nat → Value) (w : World) (R : Value → World → Prop) : Prop :=
 ∃ (t39_p : Option Addr) (t39_n : Nat) (t39_c : Nat), Loads P 23 ((⟨q3, 0, none⟩ : Addr).add 1) (.slice t39_p t39_n t39_c) w ∧ ∃ t41 : Int, t41 = IntKind.wrap .i64 (i8 + 1) ∧ ∃ (t42_p : Option Addr) (t42_n : Nat) (t42_c : Nat), Loads P 37 ⟨q2, 0, none⟩ (.slice t42_p t42_n t42_c) w ∧ ((decide ((t41 : Int) < ((t42_n : Nat) : Int))) = true →
 ∃ (t46_p : Option Addr) (t46_n : Nat) (t46_c : Nat), Loads P 37 ⟨q2, 0, none⟩ (.slice t46_p t46_n t46_c) w ∧ ∃ t48 : Int, t48 = IntKind.wrap .i64 (i8 + 1) ∧ (0 ≤ (t48 : Int) ∧ (t48 : Int) < (t46_n : Nat)) ∧ ptrS t46_p fun ad => ∃ (t51 : Int), Loads P 3 ((ad.add (t48.toNat * 4)).add 0) (.int .i64 t51) w ∧ Calls P 64 ⟨[(.int .i64 t51)]⟩ w fun e wv =>
 ∃ (t52_p : Option Addr) (t52_n : Nat) (t52_c : Nat), e = .returned (.slice t52_p t52_n t52_c) ∧
 Calls P 63 ⟨[(.slice t52_p t52_n t52_c), (.slice t39_p t39_n t39_c)]⟩ wv fun e_1 wv_1 =>
 ∃ (t54 : Int), e_1 = .returned (.int .i64 t54) ∧
 ((decide ((t54 : Int) < 0)) = true →
 ∃ (t57_p : Option Addr) (t57_n : Nat) (t57_c : Nat), Loads P 37 ⟨q2, 0, none⟩ (.slice t57_p t57_n t57_c) wv_1 ∧ ∃ t59 : Int, t59 = IntKind.wrap .i64 (i8 + 1) ∧ (0 ≤ (t59 : Int) ∧ (t59 : Int) < (t57_n : Nat)) ∧ ptrS t57_p fun ad_1 => ∃ (t62 : Int), Loads P 3 ((ad_1.add (t59.toNat * 4)).add 0) (.int .i64 t62) wv_1 ∧ Calls P 64 ⟨[(.int .i64 t62)]⟩ wv_1 fun e_2 wv_2 =>
 ∃ (t63_p : Option Addr) (t63_n : Nat) (t63_c : Nat), e_2 = .returned (.slice t63_p t63_n t63_c) ∧
 impl_FeeExact_body_j0 q6 q7 q9 t63_p t63_n t63_c wv_2 R) ∧
 ((decide ((t54 : Int) < 0)) = false →
 impl_FeeExact_body_j0 q6 q7 q9 t39_p t39_n t39_c wv_1 R)) ∧
 ((decide ((t41 : Int) < ((t42_n : Nat) : Int))) = false →
 (false = true →
 ∃ (t57_p_1 : Option Addr) (t57_n_1 : Nat) (t57_c_1 : Nat), Loads P 37 ⟨q2, 0, none⟩ (.slice t57_p_1 t57_n_1 t57_c_1) w ∧ ∃ t59_1 : Int, t59_1 = IntKind.wrap .i64 (i8 + 1) ∧ (0 ≤ (t59_1 : Int) ∧ (t59_1 : Int) < (t57_n_1 : Nat)) ∧ ptrS t57_p_1 fun ad_2 => ∃ (t62_1 : Int), Loads P 3 ((ad_2.add (t59_1.toNat * 4)).add 0) (.int .i64 t62_1) w ∧ Calls P 64 ⟨[(.int .i64 t62_1)]⟩ w fun e_8 wv_27 =>
 ∃ (t63_p_1 : Option Addr) (t63_n_1 : Nat) (t63_c_1 : Nat), e_8 = .returned (.slice t63_p_1 t63_n_1 t63_c_1) ∧
 impl_FeeExact_body_j0 q6 q7 q9 t63_p_1 t63_n_1 t63_c_1 wv_27 R) ∧
 (false = false →
 impl_FeeExact_body_j0 q6 q7 q9 t39_p t39_n t39_c w R))
theorem impl_FeeExact_body_eq (q2 : Nat) (q3 : Nat) (q6 : Nat) (q7 : Nat) (i8 : Int) (q9 : Nat) (z : Nat → Value) (w : World) (R : Value → World → Prop) : impl_FeeExact_body q2 q3 q6 q7 i8 q9 z w R = bsem P Tryz.f29 (fun k => []) [(z 0), (z 1), (.pointer (some ⟨q2, 0, none⟩)), (.pointer (some ⟨q3, 0, none⟩)), (z 4), (z 5), (.pointer (some ⟨q6, 0, none⟩)), (.pointer (some ⟨q7, 0, none⟩)), (.int .i64 i8), (.pointer (some ⟨q9, 0, none⟩)), (z 10), (z 11), (z 12), (z 13), (z 14), (z 15), (z 16), (z 17), (z 18), (z 19), (z 20), (z 21), (z 22), (z 23), (z 24), (z 25), (z 26), (z 27), (z 28), (z 29), (z 30), (z 31), (z 32), (z 33), (z 34), (z 35), (z 36), (z 37), (z 38), (z 39), (z 40), (z 41), (z 42), (z 43), (z 44), (z 45), (z 46), (z 47), (z 48), (z 49), (z 50), (z 51), (z 52), (z 53), (z 54), (z 55), (z 56), (z 57), (z 58), (z 59), (z 60), (z 61), (z 62), (z 63), (z 64), (z 65), (z 66), (z 67), (z 68), (z 69), (z 70), (z 71), (z 72), (z 73), (z 74), (z 75), (z 76), (z 77), (z 78), (z 79), (z 80), (z 81), (z 82), (z 83), (z 84), (z 85), (z 86), (z 87), (z 88), (z 89), (z 90), (z 91), (z 92), (z 93), (z 94), (z 95), (z 96), (z 97)] R w := by kernel_rfl
end Go.Proofs.YtmajiilehdpdmaaGreatDoor

namespace Go.Proofs.YtmajiilehdpdmaaGreatDoor
open Go Go.Proofs.YtmajiilehdpdmaaGreatDoor.Sx
set_option linter.unusedVariables false
set_option linter.unusedSimpArgs false
def rateM : List D0 → Nat
  | [_, _, .ints z, _] => (val z).toNat
  | _ => 0
def rateT : List D0 → Nat
  | [_, _, _, .int s] => s.toNat
  | _ => 0
def endOf (l : List (List D0)) (v : Int) (j : Nat) : Int := if j + 1 < l.length ∧ stepFrom (l.getD (j + 1) []) < v then stepFrom (l.getD (j + 1) []) else v
def feeV (l : List (List D0)) (v : Int) (j : Nat) : Nat := (endOf l v j - stepFrom (l.getD j [])).toNat * rateM (l.getD j []) * 10 ^ (30 - rateT (l.getD j []))
def feeSum (l : List (List D0)) (v : Int) (xs : List Nat) : Nat := (xs.map (feeV l v)).sum
def feeT (l : List (List D0)) : List D0 → Bool × List D0
  | [.bool b, .ints z] => if stepsOk l && intOk [.bool b, .ints z] && decide (z.length ≤ 4) then (true, redR ((feeSum l (val z) (List.range (lastLe l (val z) l.length + 1).toNat) : Nat) : Int) (10 ^ 30)) else (false, rat0)
  | _ => (false, rat0)
theorem feeSum_snoc (l : List (List D0)) (v : Int) (xs : List Nat) (x : Nat) : feeSum l v (xs ++ [x]) = feeSum l v xs + feeV l v x := by simp [feeSum]
theorem step_row {l : List (List D0)} (hall : ∀ i < l.length, stepOk l i = true) (hc : ∀ x ∈ l, x.map D0.code = [.int, .bool, .ints, .int]) {x : Nat} (hx : x < l.length) :
    ∃ F m t : Nat, l[x] = [.int (F : Int), .bool false, .ints (digs m), .int (t : Int)] ∧ l.getD x [] = [.int (F : Int), .bool false, .ints (digs m), .int (t : Int)] ∧ F ≤ 1000000000 ∧ m < 1000000000 ∧ t ≤ 30 ∧ stepFrom (l.getD x []) = F ∧ rateM (l.getD x []) = m ∧ rateT (l.getD x []) = t := by
  have h := hall x hx
  have hg := getD_lt (d := []) hx
  have hcode := hc _ (List.getElem_mem hx)
  simp only [stepOk, Bool.and_eq_true, decide_eq_true_eq] at h
  obtain ⟨⟨⟨h0, h1⟩, h2⟩, _⟩ := h
  rw [hg] at h0 h1 h2 ⊢
  obtain ⟨a, es, he, c1⟩ := code_int hcode
  obtain ⟨b, es2, he2, c2⟩ := code_bool (by rw [he] at hcode; exact c1)
  obtain ⟨z, es3, he3, c3⟩ := code_ints c2
  obtain ⟨s, es4, he4, c4⟩ := code_int c3
  have := code_nil c4
  subst this
  rw [he, he2, he3, he4] at h0 h1 h2 ⊢
  simp only [stepFrom, List.drop_succ_cons, List.drop_zero] at h0 h1 h2
  obtain ⟨m, t, rfl, rfl, rfl, ht, em, et, hm⟩ := taxOk_nn h2
  obtain ⟨F, rfl⟩ : ∃ F : Nat, a = F := ⟨a.toNat, by omega⟩
  exact ⟨F, m, t, rfl, rfl, by omega, hm, ht, rfl, em, et⟩
theorem endOf_le (l : List (List D0)) (v : Int) (j : Nat) : endOf l v j ≤ v := by
  unfold endOf
  split <;> omega
theorem fee_bound {l : List (List D0)} (hall : ∀ i < l.length, stepOk l i = true) (hc : ∀ x ∈ l, x.map D0.code = [.int, .bool, .ints, .int]) {v : Int} (hv : v < 1000000000000000000000000000000000000) {x : Nat} (hx : x < l.length) :
    feeV l v x ≤ 1000000000000000000000000000000000000 * 1000000000 * 1000000000000000000000000000000 := by
  obtain ⟨F, m, t, _, _, hF, hm, ht, e1, e2, e3⟩ := step_row hall hc hx
  have he := endOf_le l v x
  unfold feeV
  rw [e1, e2, e3]
  have h1 : (endOf l v x - (F : Int)).toNat ≤ 1000000000000000000000000000000000000 := by omega
  have h2 : 10 ^ (30 - t) ≤ 10 ^ 30 := Nat.pow_le_pow_right (by decide) (by omega)
  exact Nat.mul_le_mul (Nat.mul_le_mul h1 (by omega)) h2
theorem feeSum_bound {l : List (List D0)} (hall : ∀ i < l.length, stepOk l i = true) (hc : ∀ x ∈ l, x.map D0.code = [.int, .bool, .ints, .int]) {v : Int} (hv : v < 1000000000000000000000000000000000000) : ∀ (xs : List Nat), (∀ x ∈ xs, x < l.length) →
    feeSum l v xs ≤ xs.length * (1000000000000000000000000000000000000 * 1000000000 * 1000000000000000000000000000000)
  | [], _ => by simp [feeSum]
  | x :: xs, h => by
    have h1 := fee_bound hall hc hv (h x List.mem_cons_self)
    have h2 := feeSum_bound hall hc hv xs (fun y hy => h y (List.mem_cons_of_mem _ hy))
    simp only [feeSum, List.map_cons, List.sum_cons, List.length_cons] at h2 ⊢
    omega
theorem fee_ok {V : Nat} (h : V ≤ 9 * (1000000000000000000000000000000000000 * 1000000000 * 1000000000000000000000000000000)) : redOk (V : Int) (10 ^ 30) = true ∧ redR (V : Int) (10 ^ 30) = rmk (redN (V : Int) (10 ^ 30)) (redD (V : Int) (10 ^ 30)) ∧ ratOk (rmk (redN (V : Int) (10 ^ 30)) (redD (V : Int) (10 ^ 30))) = true := by
  have h9 : (1000000000 : Nat) ^ 9 = 1000000000000000000000000000000000000000000000000000000000000000000000000000000000 := by decide
  have k0 : (digs V).length ≤ 9 := digs_len 9 (by omega)
  have k1 := redOk_small (n := (V : Int)) (d := 10 ^ 30) (by rw [Int.natAbs_natCast]; omega) (by have := ten_len (k := 30) (by decide); omega)
  have k2 := redR_yes k1
  have k3 := redR_ok (n := (V : Int)) (d := 10 ^ 30) (Nat.pow_pos (by decide)) k1
  rw [k2] at k3
  exact ⟨k1, k2, k3⟩
theorem impl_FeeExact_body_j0_n {W0 W : World} {B q6 q7 q9 : Nat} {ep : Option Addr} {en ec : Nat} {e F m t V : Nat} {dp : Option Addr} {dn dc : Nat} {cs : List Value} {f : List Nat}
    (hend : IntsR W ep en ec (digs e)) (he4 : (digs e).length ≤ 4) (hFe : F ≤ e) (hF : F ≤ 1000000000) (hm : m < 1000000000) (ht : t ≤ 30)
    (b6 : Blk W q6 T_impl_Rat cs) (b7 : Blk W q7 T_bool [.bool true]) (b9 : Blk W q9 T_impl_Step [.int .i64 (F : Int), .bool false, .slice dp dn dc, .int .i64 (t : Int)]) (hdi : IntsR W dp dn dc (digs m)) (h67 : q6 ≠ q7)
    (ho : Owns W B cs (redR (V : Int) (10 ^ 30)) f) (hB : B ≤ W.heap.size)
    (hV : V + (e - F) * m * 10 ^ (30 - t) ≤ 9 * (1000000000000000000000000000000000000 * 1000000000 * 1000000000000000000000000000000)) (hq : q6 < W.heap.size ∧ q7 < W.heap.size) (hx0 : Ext W0 W) :
    impl_FeeExact_body_j0 q6 q7 q9 ep en ec W (fun _ W' => Chg [q6, q7] W0 W' ∧ (∃ cs f, Blk W' q6 T_impl_Rat cs ∧ Owns W' B cs (redR ((V + (e - F) * m * 10 ^ (30 - t) : Nat) : Int) (10 ^ 30)) f ∧ f.Nodup) ∧ Blk W' q7 T_bool [.bool true]) := by
  obtain ⟨v1, v2, v3⟩ := fee_ok (V := V) (by omega)
  obtain ⟨u1, u2, u3⟩ := fee_ok (V := (e - F) * m * 10 ^ (30 - t)) (by omega)
  obtain ⟨s1, s2, s3⟩ := fee_ok hV
  unfold impl_FeeExact_body_j0
  refine ⟨_, b9.loadAt 0 rfl (by kernel_rfl) rfl, ?_⟩
  refine Ret.at (impl_NatOf_c (n := (F : Int)) (by omega) (by omega)) ?_
  rintro v w1 ⟨p1, n1, c1, hv, ho1, y1⟩
  subst hv
  rw [Int.toNat_natCast] at ho1
  have i1 := ho1.ints
  have hl1 := i1.1; have hle := hend.1
  refine ⟨_, _, _, rfl, ?_⟩
  refine Ret.at (impl_natSub_c (hend.ext y1) i1 (digs_limbs _) (digs_limbs _) (by omega) (by have := digs_mono_len hFe; omega) (by rw [val_digs, val_digs]; omega)) ?_
  rintro v w2 ⟨p2, n2, c2, hv, ho2, y2⟩
  subst hv
  rw [show (val (digs e) - val (digs F)).toNat = e - F by rw [val_digs, val_digs]; omega] at ho2
  have hcl : (digs (e - F)).length ≤ 4 := Nat.le_trans (digs_mono_len (Nat.sub_le _ _)) he4
  have i2 := ho2.ints
  refine ⟨_, _, _, rfl, ?_⟩
  intro r w3 hn3 r1 w4 hn4
  have e3 := hn3.r_eq; have e4 := hn4.r_eq; have z3 := hn3.size; have z4 := hn4.size
  have l1 := y1.le; have l2 := y2.le
  have i3 : IntsR w3 (some ⟨r, 0, none⟩) 1 1 (digs 1) := by
    have hb := hn3.blk
    refine ⟨by rw [digs_one]; rfl, by omega, by omega, fun _ => ⟨r, 0, rfl, ?_⟩⟩
    rw [digs_one]
    exact hb.seg
  obtain ⟨w5, st5, bk5, y5⟩ := hn4.fill (P := P) (t := T_impl_Rat) (xs := [.bool false, .slice p2 n2 c2, .slice (some ⟨r, 0, none⟩) 1 1]) (by simp [Value.oneCell']) (by kernel_rfl) rfl
  have Y5 := ((y1.trans y2).trans hn3.ext).trans y5
  have D := Ext.drew w5
  have hcr : Reps w5 [.bool false, .slice p2 n2 c2, .slice (some ⟨r, 0, none⟩) 1 1] (rmk ((e - F : Nat) : Int) 1) := by
    have h0 : decide (((e - F : Nat) : Int) < 0) = false := decide_eq_false (by omega)
    have : rmk ((e - F : Nat) : Int) 1 = [.bool false, .ints (digs (e - F)), .ints (digs 1)] := by
      unfold rmk; rw [h0, Int.natAbs_natCast]
    rw [this]
    exact ⟨rfl, ⟨_, _, _, rfl, i2.ext (hn3.ext.trans y5)⟩, ⟨_, _, _, rfl, i3.ext y5⟩, trivial⟩
  have l5 := y5.le
  have lD := D.le
  refine ⟨w5, st5, _, _, _, _, _, _, _, fun W hW => ((bk5.ext D).ext hW).loadA0 (by kernel_rfl), _, _, _, _, _, fun W hW => (((b9.ext Y5).ext D).ext hW).loadAAt 1 [.bool false, .slice dp dn dc, .int .i64 (t : Int)] rfl (by kernel_rfl) rfl, ?_⟩
  intro ss w6 F1
  have S1 := (FlSt.start (o := .cells ⟨[.bool false, .slice none 0 0, .slice none 0 0]⟩ T_impl_Rat (0, 0)) w5.drew).step F1
  have hdr : Reps w6 [.bool false, .slice dp dn dc, .int .i64 (t : Int)] (dnn m (t : Int)) := ⟨rfl, ⟨_, _, _, rfl, hdi.ext ((Y5.trans D).trans S1.1)⟩, rfl, trivial⟩
  refine Ret.at (impl_DecRat_n hdr (Nat.le_trans (one_len hm) (by decide)) ht) ?_
  have hpow : 0 < 10 ^ t := Nat.pow_pos (by decide)
  have d1 := redOk_small (n := (m : Int)) (d := 10 ^ t) (by rw [Int.natAbs_natCast]; have := one_len hm; omega) (by have := ten_len ht; omega)
  have d2 := redR_yes d1
  have d3 := redR_ok hpow d1
  rw [d2] at d3
  rintro v w7 ⟨vs7, f7, hv, ho7, _, y7⟩
  subst hv
  rw [d2] at ho7
  obtain ⟨x0, xp, xn, xc, xz, xp2, xn2, xc2, xz2, rfl, _, _, _⟩ := open_Rat ho7.reps (rmk_code _ _)
  refine ⟨_, _, _, _, _, _, _, rfl, y7, ?_⟩
  intro ss1 w8 F2
  have S2 := (S1.ext y7).step F2
  refine Ret.at (impl_RatMul_n (hcr.ext (D.trans S2.1)) (ho7.reps.ext F2.ext) (rmk_int_ok (by rw [Int.natAbs_natCast]; omega)) d3) ?_
  rintro v w9 ⟨vs9, f9, hv, ho9, _, y9⟩
  subst hv
  obtain ⟨r1', r2'⟩ := red_dec (c := e - F) (m := m) ht
  rw [r1', u2] at ho9
  rw [r2', u1]
  obtain ⟨g0, gp, gn, gc', gz, gp2, gn2, gc2, gz2, rfl, _, _, _⟩ := open_Rat ho9.reps (rmk_code _ _)
  refine ⟨_, _, _, _, _, _, _, _, rfl, ?_⟩
  intro ss2 w10 r8 F4 G
  have S4 := (S2.ext y9).step F4
  obtain ⟨hr8, hbk⟩ := S4.get G
  have B8 : Blk w10 r8 T_impl_Rat [.bool false, .slice none 0 0, .slice none 0 0] := hbk
  obtain ⟨w11, st11, bk11, ch11, z11⟩ := B8.storeA0 (P := P) (t := T_impl_Rat) (xs := [.bool g0, .slice gp gn gc', .slice gp2 gn2 gc2]) (by kernel_rfl) rfl (by simp [Value.oneCell'])
  have hni := Owns.notin B8 (by decide) (ho9.ext F4.ext)
  have ho11 := (ho9.ext F4.ext).chg ch11 (fun k hk hm' => hni (by simp at hm'; rwa [← hm']))
  have Z : Ext w5.drew w11 := S4.1.chg ch11 (by simp; exact hr8)
  have X11 := (Y5.trans D).trans Z
  rw [v2] at ho
  have hor := ho.reps
  obtain ⟨t0, tp, tn, tc, tz, tp2, tn2, tc2, tz2, rfl, _, _, _⟩ := open_Rat hor (rmk_code _ _)
  refine ⟨w11, st11, _, _, _, _, _, _, _, (b6.ext X11).loadA0 (by kernel_rfl), _, _, _, _, _, _, _, bk11.loadA0 (by kernel_rfl), ?_⟩
  refine Ret.at (impl_RatAdd_n (hor.ext X11) ho11.reps v3 u3) ?_
  rintro v w12 ⟨vs12, f12, hv, ho12, nd12, y12⟩
  subst hv
  obtain ⟨a1, a2⟩ := red_add (V := (V : Int)) (v := (((e - F) * m * 10 ^ (30 - t) : Nat) : Int)) (X := 10 ^ 30) (Nat.pow_pos (by decide))
  rw [a1, ← Int.natCast_add] at ho12
  rw [a2, ← Int.natCast_add, s1]
  obtain ⟨j0, jp, jn, jc, jz, jp2, jn2, jc2, jz2, rfl, _, _, _⟩ := open_Rat ho12.reps (redR_code _ _)
  refine ⟨_, _, _, _, _, _, _, _, rfl, ?_⟩
  intro r3 w13 hn13
  have e13 := hn13.r_eq; have z13 := hn13.size
  obtain ⟨w14, st14, bk14, y14⟩ := hn13.fill (P := P) (t := T_impl_Rat) ho12.reps.cells1 (by kernel_rfl) rfl
  have X14 := (X11.trans y12).trans y14
  have lX := (X11).le; have l12 := y12.le; have l14 := y14.le
  refine ⟨w14, st14, _, _, _, _, _, _, _, bk14.loadA0 (by kernel_rfl), _, (b7.ext X14).loadAt 0 rfl (by kernel_rfl) rfl, fun _ => ⟨fun _ => ?_, fun h => absurd h (by simp)⟩, fun h => absurd h (by simp)⟩
  have o14 := ho12.ext y14
  obtain ⟨w15, st15, k6, ch15, z15⟩ := (b6.ext X14).storeA0 (P := P) (t := T_impl_Rat) (xs := [.bool j0, .slice jp jn jc, .slice jp2 jn2 jc2]) (by kernel_rfl) rfl (by simp [Value.oneCell'])
  obtain ⟨w16, st16, k7, ch16, z16⟩ := ((b7.ext X14).chg ch15 (by simp; exact h67.symm)).store0 (P := P) (t := T_bool) (k := 0) (v := .bool true) (by kernel_rfl) (by simp) rfl
  have o15 := o14.chg ch15 (fun k hk hm' => by have := (ho12.lt k hk).1; simp at hm'; omega)
  have o16 := o15.chg ch16 (fun k hk hm' => by have := (ho12.lt k hk).1; simp at hm'; omega)
  exact ⟨w15, st15, w16, st16, ((hx0.trans X14).toChg.trans (ch15.mono (fun k hk => by simp at hk ⊢; omega))).trans (ch16.mono (fun k hk => by simp at hk ⊢; omega)), ⟨_, f12, k6.chg ch16 (by simp; exact h67), o16.mono (by omega), nd12⟩, k7⟩
theorem impl_FeeExact_body_n {w W : World} {B q2 q3 q6 q7 q9 x n c b off : Nat} {q : Option Addr} {m d V : Nat} {b0 : Bool} {z : List Int} {l : List (List D0)} {rc cs : List Value} {f : List Nat} {zf : Nat → Value}
    (hx : Ext w W) (h : RowsR w 4 (some ⟨b, off, none⟩) n c l) (hc : ∀ x ∈ l, x.map D0.code = [.int, .bool, .ints, .int]) (hm : IntsR w q m d z) (hcan : Canon z) (hz4 : z.length ≤ 4) (hn8 : l.length ≤ 8) (hall : ∀ i < l.length, stepOk l i = true)
    (b2 : Blk W q2 T_s_impl_Step [.slice (some ⟨b, off, none⟩) n c]) (b3 : Blk W q3 T_impl_Signed [.bool b0, .slice q m d]) (b6 : Blk W q6 T_impl_Rat cs) (b7 : Blk W q7 T_bool [.bool true]) (b9 : Blk W q9 T_impl_Step rc) (hxl : x < l.length) (hrc : Reps w rc (l[x]))
    (hFv : stepFrom (l.getD x []) ≤ val z) (h67 : q6 ≠ q7) (ho : Owns W B cs (redR (V : Int) (10 ^ 30)) f) (hB : B ≤ W.heap.size) (hV : V + feeV l (val z) x ≤ 9 * (1000000000000000000000000000000000000 * 1000000000 * 1000000000000000000000000000000)) :
    impl_FeeExact_body q2 q3 q6 q7 (x : Nat) q9 zf W (fun _ W' => Chg [q6, q7] W W' ∧ (∃ cs f, Blk W' q6 T_impl_Rat cs ∧ Owns W' B cs (redR ((V + feeV l (val z) x : Nat) : Int) (10 ^ 30)) f ∧ f.Nodup) ∧ Blk W' q7 T_bool [.bool true]) := by
  have hln := h.1
  have hrr := hrc
  obtain ⟨F, mm, t, el, eg, hF, hmm, ht, e1, e2, e3⟩ := step_row hall hc hxl
  rw [el] at hrc
  obtain ⟨a0, a1, dp, dn, dc, dz, a3, rfl, hd, hdi⟩ := open_Step hrc rfl
  simp only [List.cons.injEq, D0.int.injEq, D0.bool.injEq, D0.ints.injEq, and_true] at hd
  obtain ⟨rfl, rfl, rfl, rfl⟩ := hd
  have hv0 := val_nonneg hcan.1
  have hdz : digs (val z).toNat = z := digs_val hcan
  have hfv : ∀ e : Nat, endOf l (val z) x = (e : Int) → feeV l (val z) x = (e - F) * mm * 10 ^ (30 - t) := fun e he => by
    unfold feeV
    rw [he, e1, e2, e3]
    congr 2
    omega
  rw [e1] at hFv
  have l6 := b6.lt; have l7 := b7.lt
  obtain ⟨bb, oo, hp, hrows⟩ := h.2.2.2 (by omega)
  cases hp
  have first : ∀ i (hi : i < l.length), ∀ W, Ext w W → Loads P T_int (((⟨b, off, none⟩ : Addr).add (i * 4)).add 0) (.int .i64 (stepFrom (l.getD i []))) W := by
    intro i hi W hW
    obtain ⟨cs, hk, hr, hsg⟩ := hrows i _ (List.getElem?_eq_getElem hi)
    obtain ⟨a0, a1, a2p, a2n, a2c, a2z, a3, rfl, hd, _⟩ := open_Step hr (hc _ (List.getElem_mem hi))
    rw [getD_lt hi, hd]
    exact (hsg.ext hW).loadAt 0 (by simp [Addr.add]) (by kernel_rfl) rfl
  have whole : endOf l (val z) x = val z → ∀ W1, Ext W W1 → impl_FeeExact_body_j0 q6 q7 q9 q m d W1 (fun _ W' => Chg [q6, q7] W W' ∧ (∃ cs f, Blk W' q6 T_impl_Rat cs ∧ Owns W' B cs (redR ((V + feeV l (val z) x : Nat) : Int) (10 ^ 30)) f ∧ f.Nodup) ∧ Blk W' q7 T_bool [.bool true]) := by
    intro he W1 y
    have hk := hfv (val z).toNat (by rw [he]; omega)
    rw [hk] at hV ⊢
    have := y.le
    exact impl_FeeExact_body_j0_n (e := (val z).toNat) (by rw [hdz]; exact hm.ext (hx.trans y)) (by rw [hdz]; exact hz4) (by omega) hF hmm ht (b6.ext y) (b7.ext y) (b9.ext y) (hdi.ext (hx.trans y)) h67 (ho.ext y) (by omega) hV ⟨by omega, by omega⟩ y
  unfold impl_FeeExact_body
  refine ⟨_, _, _, b3.loadAt 1 rfl (by kernel_rfl) rfl, exW ⟨by omega, by omega⟩ ⟨_, _, _, b2.loadAt 0 rfl (by kernel_rfl) rfl, ifD (fun hlt => ?_) (fun hge => ⟨fun h => absurd h (by simp), fun _ => whole (by unfold endOf; rw [if_neg (by omega)]) _ (Ext.refl W)⟩)⟩⟩
  have hx1 : x + 1 < l.length := by omega
  obtain ⟨F2, _, _, _, _, hF2, _, _, f1, _, _⟩ := step_row hall hc hx1
  have hidx : ((x : Int) + 1).toNat = x + 1 := by omega
  refine ⟨_, _, _, b2.loadAt 0 rfl (by kernel_rfl) rfl, exW ⟨by omega, by omega⟩ ⟨⟨by omega, by omega⟩, _, by rw [hidx]; exact first (x + 1) hx1 W hx, ?_⟩⟩
  rw [f1]
  refine Ret.at (impl_NatOf_c (n := (F2 : Int)) (by omega) (by omega)) ?_
  rintro v w1 ⟨p1, n1, c1, hv, ho1, y1⟩
  subst hv
  rw [Int.toNat_natCast] at ho1
  refine ⟨_, _, _, rfl, ?_⟩
  refine Ret.at (impl_natCmp_c ho1.ints (hm.ext (hx.trans y1))) ?_
  rintro v w2 ⟨hv, y2⟩
  subst hv
  have Y2 := y1.trans y2
  have hcm := cmpL_val (digs_canon F2) hcan
  rw [val_digs] at hcm
  refine ⟨_, rfl, ifD (fun hneg => ?_) (fun hpos => whole (by unfold endOf; rw [f1, if_neg (by omega)]) _ Y2)⟩
  have he : endOf l (val z) x = (F2 : Int) := by unfold endOf; rw [f1, if_pos (by omega)]
  refine ⟨_, _, _, (b2.ext Y2).loadAt 0 rfl (by kernel_rfl) rfl, exW ⟨by omega, by omega⟩ ⟨⟨by omega, by omega⟩, _, by rw [hidx]; exact first (x + 1) hx1 w2 (hx.trans Y2), ?_⟩⟩
  rw [f1]
  refine Ret.at (impl_NatOf_c (n := (F2 : Int)) (by omega) (by omega)) ?_
  rintro v w3 ⟨p3, n3, c3, hv, ho3, y3⟩
  subst hv
  rw [Int.toNat_natCast] at ho3
  refine ⟨_, _, _, rfl, ?_⟩
  have Y3 := Y2.trans y3
  have hk := hfv F2 he
  rw [hk] at hV ⊢
  have l3 := Y3.le
  have hup : F ≤ F2 := by
    have := steps_up hall x (x + 1) (by omega) hx1
    rw [e1, f1] at this; omega
  exact impl_FeeExact_body_j0_n (e := F2) ho3.ints (by have := one_len (m := F2); have h9 : (1000000000 : Nat) ^ 2 = 1000000000000000000 := by decide
                                                       have := digs_len (n := F2) 2 (by omega)
                                                       omega) hup hF hmm ht (b6.ext Y3) (b7.ext Y3) (b9.ext Y3) (hdi.ext (hx.trans Y3)) h67 (ho.ext Y3) (by omega) hV ⟨by omega, by omega⟩ Y3
end Go.Proofs.YtmajiilehdpdmaaGreatDoor

namespace Go.Proofs.YtmajiilehdpdmaaGreatDoor
open Go Go.Proofs.YtmajiilehdpdmaaGreatDoor.Sx
set_option linter.unusedVariables false
set_option linter.unusedSimpArgs false
theorem impl_FeeExact_no {w : World} {p : Option Addr} {n c : Nat} {l : List (List D0)} {xs : List Value} {b : Bool} {z : List Int} (h : RowsR w 4 p n c l) (hc : ∀ x ∈ l, x.map D0.code = [.int, .bool, .ints, .int]) (g : Reps w xs [.bool b, .ints z]) (hno : (stepsOk l && intOk [.bool b, .ints z] && decide (z.length ≤ 4)) = false) :
    Ret P n_impl_FeeExact [.slice p n c, .agg ⟨xs⟩] w fun v w' => ∃ vs f, v = .tuple #[.agg ⟨vs⟩, .bool false] ∧ Owns w' w.heap.size vs rat0 f ∧ f.Nodup ∧ Ext w w' := by
  have gr := g
  obtain ⟨b0, q, m, d, z0, rfl, he, hz⟩ := open_Signed g rfl
  cases he
  have hzl := hz.1
  refine impl_FeeExact_ret ?_
  unfold impl_FeeExact
  intro r w1 hn1 r1 w2 hn2 r2 w3 hn3
  have e1 := hn1.r_eq; have e2 := hn2.r_eq; have e3 := hn3.r_eq; have z1 := hn1.size; have z2 := hn2.size; have z3 := hn3.size
  have X := (hn1.ext.trans hn2.ext).trans hn3.ext
  have q0 := (hn1.blk.ext hn2.ext).ext hn3.ext; have q1 := hn2.blk.ext hn3.ext; have q2 := hn3.blk
  have zero : ∀ W, Ext w3 W → ∃ W', Stores P T_impl_Rat ⟨r2, 0, none⟩ (.agg ⟨[.bool false, .slice none 0 0, .slice none 0 0]⟩) W W' ∧ ∃ (rb : Bool) (rp : Option Addr) (rn rc : Nat) (rp2 : Option Addr) (rn2 rc2 : Nat), Loads P T_impl_Rat ⟨r2, 0, none⟩ (.agg #[.bool rb, .slice rp rn rc, .slice rp2 rn2 rc2]) W' ∧ (fun (v : Value) (w' : World) => ∃ vs f, v = .tuple #[.agg ⟨vs⟩, .bool false] ∧ Owns w' w.heap.size vs rat0 f ∧ f.Nodup ∧ Ext w w') (.tuple #[.agg #[.bool rb, .slice rp rn rc, .slice rp2 rn2 rc2], .bool false]) W' := by
    intro W hW
    have lW := hW.le
    obtain ⟨W', st', ld', ow', xx', _, _⟩ := agg_end (t := T_impl_Rat) (q2.ext hW) (X.trans hW) (by omega) (own_rat0 W (r2 + 1)) (by kernel_rfl) rfl (by omega) (by omega)
    exact ⟨W', st', _, _, _, _, _, _, _, ld', _, [], rfl, ow', List.nodup_nil, xx'⟩
  refine ⟨_, _, _, q0.loadAt 0 rfl (by kernel_rfl) rfl, ?_⟩
  refine Ret.at (impl_StepsOk_c (h.ext X) hc) ?_
  rintro v w4 ⟨hv, y4⟩
  subst hv
  refine ⟨_, rfl, ifN (fun _ => ifT (ifT (zero _ y4))) (fun hs => ⟨_, _, _, _, (q1.ext y4).loadA0 (by kernel_rfl), ?_⟩)⟩
  refine Ret.at (impl_IntOk_c (gr.ext (X.trans y4)) rfl) ?_
  rintro v w5 ⟨hv, y5⟩
  subst hv
  have Y5 := y4.trans y5
  refine ⟨_, rfl, ifN (fun _ => ifT (zero _ Y5)) (fun hi => ⟨_, _, _, (q1.ext Y5).loadAt 1 rfl (by kernel_rfl) rfl, ifD (fun _ => zero _ Y5) (fun hge => ?_)⟩)⟩
  rw [hs, hi, decide_eq_true (show z.length ≤ 4 by omega)] at hno
  cases hno
theorem results_cell_tmp {fn : Func} {tmps : Array Value} {a b : Tmp} {t : TypeId} {ad : Addr} {v u : Value} {w : World} (hr : fn.results = #[.cell a t, .tmp b]) (ha : tmps.getD a undef = .pointer (some ad)) (hb : tmps.getD b undef = u) (hl : Loads P t ad v w) :
    (results fn tmps).run P w = .ok (.tuple #[v, u]) w := by
  have hl' : (loadVar t ad).run P w = .ok v w := hl
  rw [results_eq, hr]
  simp only [Array.mapM_eq_mapM_toList, List.mapM_cons, List.mapM_nil, resF, ha, hb, asAddr, Sem.run_bind, Sem.run_map, Sem.run_pure, Result.andThen_ok, hl']
  simp
end Go.Proofs.YtmajiilehdpdmaaGreatDoor

namespace Go.Proofs.YtmajiilehdpdmaaGreatDoor
open Go Go.RowKit Go.Shelf Go.Proofs Go.Proofs.YtmajiilehdpdmaaGreatDoor.Sx
set_option linter.unusedVariables false
set_option linter.unusedSimpArgs false
theorem blk_grow {W W' : World} {row : Option Nat} {B k : Nat} {e : TypeId} {xs : List Value} (h : Blk W k e xs) (hg : W.grownBy W' row) (hr : ∀ r, row = some r → B ≤ r ∧ ∃ o : Obj, W.heap[r]? = some o ∧ o.isCells = false) : Blk W' k e xs := by
  refine (hg.block k h.lt (fun he => ?_)).trans h
  obtain ⟨_, o, ho, hc⟩ := hr k he.symm
  have := h.symm.trans ho
  cases this
  simp [Obj.isCells] at hc
theorem own_grow {W W' : World} {row : Option Nat} {B b size : Nat} {e : TypeId} {p : Option Addr} {n c : Nat} {xs : List Value} (h : Sx.Own W b e size p n c xs) (hg : W.grownBy W' row) (hr : ∀ r, row = some r → B ≤ r ∧ ∃ o : Obj, W.heap[r]? = some o ∧ o.isCells = false) : Sx.Own W' b e size p n c xs := by
  refine ⟨h.1, ?_⟩
  rcases h.2 with hn | ⟨g, cap, cur, he, hb, hgg, rest⟩
  · exact .inl hn
  · refine .inr ⟨g, cap, cur, he, hb, ?_, rest⟩
    refine (hg.block g (Array.getElem?_eq_some_iff.1 hgg).1 (fun e => ?_)).trans hgg
    obtain ⟨_, o, ho, hc⟩ := hr g e.symm
    have := hgg.symm.trans ho
    cases this
    simp [Obj.isCells] at hc
theorem own0_grow {W W' : World} {row : Option Nat} {B b : Nat} {v : Value} {d : D0} {f : List Nat} (h : Own0 W b v d f) (hg : W.grownBy W' row) (hr : ∀ r, row = some r → B ≤ r ∧ ∃ o : Obj, W.heap[r]? = some o ∧ o.isCells = false) : Own0 W' b v d f := by
  cases d <;> simp only [Own0] at h ⊢ <;> try exact h
  obtain ⟨p, n, c, hv, ho, hf⟩ := h
  exact ⟨p, n, c, hv, own_grow ho hg hr, hf⟩
theorem owns_grow {W W' : World} {row : Option Nat} {B b : Nat} (hg : W.grownBy W' row) (hr : ∀ r, row = some r → B ≤ r ∧ ∃ o : Obj, W.heap[r]? = some o ∧ o.isCells = false) : ∀ {vs : List Value} {ds : List D0} {f : List Nat}, Owns W b vs ds f → Owns W' b vs ds f
  | [], [], _, h => h
  | [], _ :: _, _, h => h.elim
  | _ :: _, [], _, h => h.elim
  | _ :: _, _ :: _, _, h => by
    obtain ⟨f1, f2, rfl, h1, h2⟩ := h
    exact ⟨f1, f2, rfl, own0_grow h1 hg hr, owns_grow hg hr h2⟩
theorem blk_frozen {w : World} {b k : Nat} {e : TypeId} {xs : List Value} (h : Blk w b e xs) : w.frozen? ⟨b, k, none⟩ = false := by
  have h' : w.heap[b]? = some (.cells ⟨xs⟩ e (0, 0)) := h
  simp [World.frozen?, h']
theorem keepsFrom_chg {S : List Nat} {B : Nat} {W W' : World} (h : Chg S W W') (hS : ∀ k ∈ S, k < B) : KeepsFrom B W W' :=
  ⟨h.size, fun k o hB hk ho => (h.block k (Array.getElem?_eq_some_iff.1 hk).1 (fun hm => by have := hS k hm; omega)).trans hk⟩
theorem below_chg {S : List Nat} {B : Nat} {W W' : World} (h : Chg S W W') (hS : ∀ k ∈ S, B ≤ k) (hB : B ≤ W.heap.size) : Below B W W' :=
  ⟨h.os, h.tape, h.output, h.size, fun k hk => h.block k (by omega) (fun hm => by have := hS k hm; omega)⟩
theorem blk_setCell {w : World} {b k : Nat} {e : TypeId} {cs : List Value} (h : Blk w b e cs) (v : Value) : Blk (w.setCell ⟨b, k, none⟩ v) b e (cs.set k v) ∧ Chg [b] w (w.setCell ⟨b, k, none⟩ v) := by
  have h' : w.heap[b]? = some (.cells ⟨cs⟩ e (0, 0)) := h
  refine ⟨?_, rfl, rfl, rfl, by simp [World.setCell], fun j hj hn => Below.heap_setCell w ⟨b, k, none⟩ v j (by simpa using hn)⟩
  show (w.heap.modify b _)[b]? = _
  rw [Array.getElem?_modify, if_pos rfl, h']
  simp
set_option maxRecDepth 100000 in
set_option maxHeartbeats 8000000 in
theorem impl_FeeExact_yes {w : World} {p : Option Addr} {n c : Nat} {l : List (List D0)} {xs : List Value} {b0 : Bool} {z : List Int} (h : RowsR w 4 p n c l) (hc : ∀ x ∈ l, x.map D0.code = [.int, .bool, .ints, .int]) (g : Reps w xs [.bool b0, .ints z]) (hs : stepsOk l = true) (hi : intOk [.bool b0, .ints z] = true) (hz4 : z.length ≤ 4) :
    Ret P n_impl_FeeExact [.slice p n c, .agg ⟨xs⟩] w fun v w' => ∃ vs f, v = .tuple #[.agg ⟨vs⟩, .bool true] ∧ Owns w' w.heap.size vs (redR ((feeSum l (val z) (List.range (lastLe l (val z) l.length + 1).toNat) : Nat) : Int) (10 ^ 30)) f ∧ f.Nodup ∧ Ext w w' := by
  have gr := g
  obtain ⟨b1, q, m, d, z1, rfl, hez, hz⟩ := open_Signed g rfl
  simp only [List.cons.injEq, D0.bool.injEq, D0.ints.injEq, and_true] at hez
  obtain ⟨rfl, rfl⟩ := hez
  refine (callsIn_wide (n := 10)).1 ?_
  change CallsIn Fence.wide 10 Tryz.prog 29 #[.slice p n c, .agg #[.bool b0, .slice q m d]] w fun e w' => ∃ v, e = .returned v ∧ ∃ vs f, v = .tuple #[.agg ⟨vs⟩, .bool true] ∧ Owns w' w.heap.size vs (redR ((feeSum l (val z) (List.range (lastLe l (val z) l.length + 1).toNat) : Nat) : Int) (10 ^ 30)) f ∧ f.Nodup ∧ Ext w w'
  have hS : ∀ W, Ext w W → Ret P n_impl_StepsOk [.slice p n c] W fun v w' => v = .bool true ∧ Ext W w' := fun W x => by rw [← hs]; exact impl_StepsOk_c (h.ext x) hc
  have hI : ∀ W, Ext w W → Ret P n_impl_IntOk [.agg ⟨[.bool b0, .slice q m d]⟩] W fun v w' => v = .bool true ∧ Ext W w' := fun W x => by rw [← hi]; exact impl_IntOk_c (gr.ext x) rfl
  have hcan : Canon z := by
    obtain ⟨_, b', z', he, hcan, _⟩ := intOk_enc hi
    simp only [List.cons.injEq, D0.bool.injEq, D0.ints.injEq, and_true] at he
    obtain ⟨_, rfl⟩ := he
    exact hcan
  have hln := h.1
  have hvb : val z < 1000000000000000000000000000000000000 := by
    have h1 := val_lt hcan.1
    have h2 : z.length = 0 ∨ z.length = 1 ∨ z.length = 2 ∨ z.length = 3 ∨ z.length = 4 := by omega
    rcases h2 with e | e | e | e | e <;> rw [e] at h1 <;> simp at h1 <;> omega
  have hs0 := hs
  simp only [stepsOk, Bool.and_eq_true, decide_eq_true_eq, List.all_eq_true, List.mem_range] at hs
  obtain ⟨⟨⟨hn1, hn8⟩, hz0⟩, hall⟩ := hs
  have hrw := h
  obtain ⟨b, off, rfl, hrows⟩ := h.2.2.2 (by omega)
  have hF : ∀ j, j < n → 0 ≤ stepFrom (l.getD j []) ∧ stepFrom (l.getD j []) ≤ 9223372036854775807 := fun j hj => by
    have := hall j (by omega)
    simp only [stepOk, Bool.and_eq_true, decide_eq_true_eq] at this
    omega
  have hpick : ∀ j, ∃ t : Bool × Option Addr × Nat × Nat × Int, j < n → (w.cell? ⟨b, off + j * 4, none⟩ = some (.int .i64 (stepFrom (l.getD j []))) ∧ w.cell? ⟨b, off + j * 4 + 1, none⟩ = some (.bool t.1) ∧ w.cell? ⟨b, off + j * 4 + 2, none⟩ = some (.slice t.2.1 t.2.2.1 t.2.2.2.1) ∧ w.cell? ⟨b, off + j * 4 + 3, none⟩ = some (.int .i64 t.2.2.2.2)) ∧ Reps w [.int .i64 (stepFrom (l.getD j [])), .bool t.1, .slice t.2.1 t.2.2.1 t.2.2.2.1, .int .i64 t.2.2.2.2] (l.getD j []) := by
    intro j
    rcases Nat.lt_or_ge j n with hj | hj
    · have hjl : j < l.length := by omega
      obtain ⟨cs, h1, h2, h3⟩ := hrows j _ (List.getElem?_eq_getElem hjl)
      have h2' := h2
      obtain ⟨a0, a1, a2p, a2n, a2c, a2z, a3, rfl, he, _⟩ := open_Step h2 (hc _ (List.getElem_mem hjl))
      have hfr : stepFrom (l.getD j []) = a0 := by rw [getD_lt hjl, he]; rfl
      exact ⟨(a1, a2p, a2n, a2c, a3), fun _ => ⟨⟨by rw [hfr]; exact h3 0 _ rfl, h3 1 _ rfl, h3 2 _ rfl, h3 3 _ rfl⟩, by rw [hfr, getD_lt hjl]; exact h2'⟩⟩
    · exact ⟨(false, none, 0, 0, 0), fun h => absurd h (by omega)⟩
  obtain ⟨t, ht⟩ := Classical.axiomOfChoice hpick
  have hb : b < w.heap.size := cell_lt (ht 0 (by omega)).1.1
  obtain ⟨K, hK, hK1, hK2⟩ := upto_le (fun j => decide (stepFrom (l.getD j []) ≤ val z)) n
  have hcmpv : ∀ j, j < n → (cmpL (digs (stepFrom (l.getD j [])).toNat) z ≤ 0 ↔ stepFrom (l.getD j []) ≤ val z) := fun j hj => by
    have h0 := (hF j hj).1
    have hv : val (digs (stepFrom (l.getD j [])).toNat) = stepFrom (l.getD j []) := by rw [val_digs, Int.toNat_of_nonneg h0]
    rcases cmpL_val (digs_canon (stepFrom (l.getD j [])).toNat) hcan with ⟨e, g⟩ | ⟨e, g⟩ | ⟨e, g⟩ <;> rw [hv] at g <;> omega
  refine callsIn_of_wp_marks Tryz.func29 rfl trivial ?_ rfl
  simp only [Tryz.ntmps29, List.size_toArray, List.length_cons, List.length_nil, Nat.reduceAdd, Nat.reduceSub, Array.replicate_succ, Array.replicate_zero, List.push_toArray, List.append_toArray, List.nil_append, List.cons_append]
  have hzl := hz.1
  have hm4 : ¬ (4 : Int) < (m : Int) := by omega
  have hm4d : decide ((4 : Int) < (m : Int)) = false := decide_eq_false hm4
  have bx0 : Blk (((w.alloc (.cells #[.slice (some ⟨b, off, none⟩) n c] 37)).alloc (.cells #[.bool b0, .slice q m d] 30)).alloc (.cells #[.bool false, .slice none 0 0, .slice none 0 0] 34)) w.heap.size 37 [.slice (some ⟨b, off, none⟩) n c] :=
    Blk.ext (Blk.ext (New.blk ⟨rfl, rfl⟩) ((Below.refl _ _).alloc (Nat.le_refl _) _)) ((Below.refl _ _).alloc (Nat.le_refl _) _)
  have bx1 : Blk (((w.alloc (.cells #[.slice (some ⟨b, off, none⟩) n c] 37)).alloc (.cells #[.bool b0, .slice q m d] 30)).alloc (.cells #[.bool false, .slice none 0 0, .slice none 0 0] 34)) (w.heap.size + 1) 30 [.bool b0, .slice q m d] := by
    refine Blk.ext ?_ ((Below.refl _ _).alloc (Nat.le_refl _) _)
    have := (New.blk (w := w.alloc (.cells #[.slice (some ⟨b, off, none⟩) n c] 37)) ⟨rfl, rfl⟩ : Blk ((w.alloc (.cells #[.slice (some ⟨b, off, none⟩) n c] 37)).alloc (.cells ⟨[.bool b0, .slice q m d]⟩ 30)) _ 30 [.bool b0, .slice q m d])
    rwa [World.size_alloc] at this
  have bx2 : Blk (((w.alloc (.cells #[.slice (some ⟨b, off, none⟩) n c] 37)).alloc (.cells #[.bool b0, .slice q m d] 30)).alloc (.cells #[.bool false, .slice none 0 0, .slice none 0 0] 34)) (w.heap.size + 1 + 1) 34 [.bool false, .slice none 0 0, .slice none 0 0] := by
    have := (New.blk (w := (w.alloc (.cells #[.slice (some ⟨b, off, none⟩) n c] 37)).alloc (.cells #[.bool b0, .slice q m d] 30)) ⟨rfl, rfl⟩ : Blk (((w.alloc (.cells #[.slice (some ⟨b, off, none⟩) n c] 37)).alloc (.cells ⟨[.bool b0, .slice q m d]⟩ 30)).alloc (.cells ⟨[.bool false, .slice none 0 0, .slice none 0 0]⟩ 34)) _ 34 [.bool false, .slice none 0 0, .slice none 0 0])
    rwa [World.size_alloc, World.size_alloc] at this
  have x1 : Ext w (((w.alloc (.cells #[.slice (some ⟨b, off, none⟩) n c] 37)).alloc (.cells #[.bool b0, .slice q m d] 30)).alloc (.cells #[.bool false, .slice none 0 0, .slice none 0 0] 34)) := (((Below.refl _ _).alloc (Nat.le_refl _) _).alloc (by simp) _).alloc (by simp; omega) _
  gi_wp2_with (first
    | (refine ⟨trivial, ?_⟩; gi_at_call 60; refine (callsIn_wide.2 (hS _ x1)).mono ?_; rintro e w2 ⟨v, rfl, rfl, y2⟩
       have k0 := bx0.ext y2; have k1 := bx1.ext y2; have k2 := bx2.ext y2
       have c0 := k1.cell 0
       have c1 := k1.cell 1
       simp only [List.getElem?_cons_zero, List.getElem?_cons_succ] at c0 c1)
    | (refine ⟨trivial, ?_⟩; gi_at_call 59; refine (callsIn_wide.2 (hI _ (x1.trans y2))).mono ?_; rintro e w3 ⟨v, rfl, rfl, y3⟩
       have l0 := k0.ext y3; have l1 := k1.ext y3; have l2 := k2.ext y3
       have d1 := l1.cell 1
       simp only [List.getElem?_cons_zero, List.getElem?_cons_succ] at d1)
    | (refine ⟨trivial, ?_⟩; gi_at_call 61; refine (callsIn_wide.2 (impl_RatZero_c _)).mono ?_; rintro e w4 ⟨v, rfl, vsz, fz, rfl, oz, ndz, y4⟩
       obtain ⟨t0, tp, tn, tc, tz, tp2, tn2, tc2, tz2, rfl, _, _, _⟩ := open_Rat oz.reps rfl
       have m0 := l0.ext y4; have m1 := l1.ext y4; have m2 := l2.ext y4
       have a2 : Ext w4 ((w4.alloc (.cells #[.bool t0, .slice tp tn tc, .slice tp2 tn2 tc2] 34)).alloc (.cells #[.bool true] 4)) := ((Below.refl _ _).alloc (Nat.le_refl _) _).alloc (by simp) _
       have e0 := (m0.ext a2).cell 0
       have e1 := (m1.ext a2).cell 1
       have hm1 := m1.lt; have hm2 := m2.lt
       simp only [List.getElem?_cons_zero, List.getElem?_cons_succ] at e0 e1)
    | (refine ⟨trivial, ?_⟩; gi_at_call 62; refine (stepsTo_in _ _ _ _ _ _ _).mono ?_; rintro e w5 ⟨rfl, rfl⟩))
  have x4 : Ext w w4 := ((x1.trans y2).trans y3).trans y4
  have hle4 := x4.le
  obtain ⟨W6, hW6⟩ : ∃ W6, (((w4.alloc (.cells #[.bool t0, .slice tp tn tc, .slice tp2 tn2 tc2] 34)).alloc (.cells #[.bool true] 4)).alloc (.cells #[.slice (some ⟨b, off, none⟩) n c] 37)).alloc (.cells #[.slice q m d] 23) = W6 := ⟨_, rfl⟩
  have sz6 : W6.heap.size = w4.heap.size + 4 := by rw [← hW6]; simp
  have x46 : Ext w4 W6 := by rw [← hW6]; exact ((((Below.refl _ _).alloc (Nat.le_refl _) _).alloc (by simp) _).alloc (by simp; omega) _).alloc (by simp; omega) _
  have n2 : Blk W6 w4.heap.size 34 [.bool t0, .slice tp tn tc, .slice tp2 tn2 tc2] := by
    rw [← hW6]; exact (((New.blk (w := w4) ⟨rfl, rfl⟩ : Blk (w4.alloc (.cells ⟨[.bool t0, .slice tp tn tc, .slice tp2 tn2 tc2]⟩ 34)) _ _ _).ext ((Below.refl _ _).alloc (Nat.le_refl _) _)).ext ((Below.refl _ _).alloc (Nat.le_refl _) _)).ext ((Below.refl _ _).alloc (Nat.le_refl _) _)
  have n3 : Blk W6 (w4.heap.size + 1) 4 [.bool true] := by
    have k := (New.blk (w := w4.alloc (.cells #[.bool t0, .slice tp tn tc, .slice tp2 tn2 tc2] 34)) ⟨rfl, rfl⟩ : Blk ((w4.alloc (.cells #[.bool t0, .slice tp tn tc, .slice tp2 tn2 tc2] 34)).alloc (.cells ⟨[.bool true]⟩ 4)) _ _ _)
    rw [World.size_alloc] at k
    rw [← hW6]; exact (k.ext ((Below.refl _ _).alloc (Nat.le_refl _) _)).ext ((Below.refl _ _).alloc (Nat.le_refl _) _)
  have n4 : Blk W6 (w4.heap.size + 1 + 1) 37 [.slice (some ⟨b, off, none⟩) n c] := by
    have k := (New.blk (w := (w4.alloc (.cells #[.bool t0, .slice tp tn tc, .slice tp2 tn2 tc2] 34)).alloc (.cells #[.bool true] 4)) ⟨rfl, rfl⟩ : Blk (((w4.alloc (.cells #[.bool t0, .slice tp tn tc, .slice tp2 tn2 tc2] 34)).alloc (.cells #[.bool true] 4)).alloc (.cells ⟨[.slice (some ⟨b, off, none⟩) n c]⟩ 37)) _ _ _)
    rw [World.size_alloc, World.size_alloc] at k
    rw [← hW6]; exact k.ext ((Below.refl _ _).alloc (Nat.le_refl _) _)
  have n5 : Blk W6 (w4.heap.size + 1 + 1 + 1) 23 [.slice q m d] := by
    have k := (New.blk (w := ((w4.alloc (.cells #[.bool t0, .slice tp tn tc, .slice tp2 tn2 tc2] 34)).alloc (.cells #[.bool true] 4)).alloc (.cells #[.slice (some ⟨b, off, none⟩) n c] 37)) ⟨rfl, rfl⟩ : Blk ((((w4.alloc (.cells #[.bool t0, .slice tp tn tc, .slice tp2 tn2 tc2] 34)).alloc (.cells #[.bool true] 4)).alloc (.cells #[.slice (some ⟨b, off, none⟩) n c] 37)).alloc (.cells ⟨[.slice q m d]⟩ 23)) _ _ _)
    rw [World.size_alloc, World.size_alloc, World.size_alloc] at k
    rw [← hW6]; exact k
  rw [hW6]
  clear hW6
  have x6 : Ext w W6 := x4.trans x46
  have hz30 : ratZeroD = redR ((0 : Nat) : Int) (10 ^ 30) := by decide +kernel
  have o6 := (oz.ext x46).mono (B' := w.heap.size + 3) (by have := l2.lt; omega)
  rw [hz30] at o6
  have p0 := m0.ext x46; have p1 := m1.ext x46; have p2 := m2.ext x46
  have hB0 : Below w.heap.size w W6 := x6
  have hKn8 : K ≤ 8 := by omega
  have hm1 : Blk W6 (w.heap.size + 1) 30 [.bool b0, .slice q m d] := p1
  obtain ⟨RC, hRC⟩ : ∃ RC : Nat → List Value, RC = fun x => [.int .i64 (stepFrom (l.getD x [])), .bool (t x).1, .slice (t x).2.1 (t x).2.2.1 (t x).2.2.2.1, .int .i64 (t x).2.2.2.2] := ⟨_, rfl⟩
  obtain ⟨TM, hTM⟩ : ∃ TM : Nat → Nat → List Value, TM = fun x Bx => [.slice (some ⟨b, off, none⟩) n c, .agg #[.bool b0, .slice q m d], .pointer (some ⟨w.heap.size, 0, none⟩), .pointer (some ⟨w.heap.size + 1, 0, none⟩), .pointer (some ⟨w.heap.size + 1 + 1, 0, none⟩), .bool false, .pointer (some ⟨w4.heap.size, 0, none⟩), .pointer (some ⟨w4.heap.size + 1, 0, none⟩), .int .i64 (x : Nat), .pointer (some ⟨Bx, 0, none⟩), undef, undef, undef, undef, undef, undef, .slice (some ⟨b, off, none⟩) n c, .bool true, .bool false, .bool false, .agg #[.bool b0, .slice q m d], .bool true, .bool false, .bool false, .bool false, .pointer (some ⟨w.heap.size + 1, 1, none⟩), .slice q m d, .int .i64 m, .bool false, .bool false, undef, .agg ⟨[.bool t0, .slice tp tn tc, .slice tp2 tn2 tc2]⟩, .slice (some ⟨b, off, none⟩) n c, .pointer (some ⟨w.heap.size + 1, 1, none⟩), .slice q m d, .func (.func 96) #[] #[.pointer (some ⟨w4.heap.size + 1 + 1, 0, none⟩), .pointer (some ⟨w4.heap.size + 1 + 1 + 1, 0, none⟩)], .int .i64 (x : Nat), .agg ⟨RC x⟩, undef, undef, undef, undef, undef, undef, undef, undef, undef, undef, undef, undef, undef, undef, undef, undef, undef, undef, undef, undef, undef, undef, undef, undef, undef, undef, undef, undef, undef, undef, undef, undef, undef, undef, undef, undef, undef, undef, undef, undef, undef, undef, undef, undef, undef, undef, undef, undef, undef, undef, undef, undef, undef, undef, undef, undef, undef, undef, undef, undef] := ⟨_, rfl⟩
  have hsz4 : w.heap.size + 3 ≤ w4.heap.size := by have := m2.lt; omega
  refine wpIn_rangeFunc_ownH (α := {x : Nat // x < K}) (n := 10) rfl (by omega) (gf := 96) (lb := #[.pointer (some ⟨w4.heap.size + 1 + 1, 0, none⟩), .pointer (some ⟨w4.heap.size + 1 + 1 + 1, 0, none⟩)]) rfl trivial (enters_of Tryz.func96 (by kernel_rfl) rfl)
    (encs := fun x => #[.int .i64 (x.1 : Nat), .agg ⟨RC x.1⟩])
    (Kp := fun A B => Below w.heap.size A B ∧ B.cell? ⟨w4.heap.size + 1 + 1 + 1, 0, none⟩ = A.cell? ⟨w4.heap.size + 1 + 1 + 1, 0, none⟩) (S := fun ys => ys.map (·.1) = List.range K) (Sp := fun _ => True) (N := n) (w0 := W6)
    (fun l' J Jx W hW hJ _ hY h0 => (stepsTo1_in l' (w4.heap.size + 1 + 1) (w4.heap.size + 1 + 1 + 1) b off n c q m d K z w (fun j => stepFrom (l.getD j [])) (fun j => (t j).1) (fun j => (t j).2.1) (fun j => (t j).2.2.1) (fun j => (t j).2.2.2.1) (fun j => (t j).2.2.2.2)
      (by omega) hz (fun j hj => (ht j hj).1) hb hcan hF hK (fun j hj => (hcmpv j (by omega)).2 (by simpa using hK1 j hj)) (fun hKn => by
        have h1 := hK2 hKn
        have h2 := (hcmpv K hKn).1
        simp only [decide_eq_false_iff_not] at h1
        omega)
      (fun ps W => ∃ L : List {x : Nat // x < K}, L.map (·.1) = ps ∧ J L W) (fun ps W => ∃ L : List {x : Nat // x < K}, L.map (·.1) = ps ∧ Jx L W)
      (fun pre x W hxK hJp hlen => by
        obtain ⟨L, hL, hJL⟩ := hJp
        obtain ⟨fn, tmps, assign, body, hy, hR⟩ := hY L ⟨x, hxK⟩ W hJL (by rw [← hL] at hlen; simpa using hlen)
        rw [hRC] at hy
        refine ⟨fn, tmps, assign, body, hy, hR.mono ?_⟩
        rintro e W' (⟨h1, h2, h3⟩ | ⟨h1, h2⟩)
        · exact .inl ⟨h1, ⟨L ++ [⟨x, hxK⟩], by rw [List.map_append, hL]; rfl, h2⟩, h3⟩
        · exact .inr ⟨h1, ⟨L ++ [⟨x, hxK⟩], by rw [List.map_append, hL]; rfl, h2⟩⟩)
      W (fun s A B row hs hg hr => by
        obtain ⟨L, hL, hJL⟩ := hs
        exact ⟨L, hL, hJ L A B row hJL hg hr⟩) (Below.trans hB0 (hW.mono hB0.size)) ((hW.cell (p := ⟨w4.heap.size + 1 + 1, 0, none⟩) (show w4.heap.size + 1 + 1 < W6.heap.size by omega)).trans (n4.cell 0)) ((hW.cell (p := ⟨w4.heap.size + 1 + 1 + 1, 0, none⟩) (show w4.heap.size + 1 + 1 + 1 < W6.heap.size by omega)).trans (n5.cell 0)) ⟨[], rfl, h0⟩).mono (by
        rintro e W' ⟨hv, (⟨ys, rfl, L, hL, hJL⟩ | ⟨pre, _, L, hL, hJL⟩)⟩
        · exact ⟨hv, .inl ⟨L, hL, hJL⟩⟩
        · exact ⟨hv, .inr ⟨L, trivial, hJL⟩⟩))
    (fun h k => ⟨h.1.trans k.1, k.2.trans h.2⟩) (fun W l o o' hl ho hc hwk => ⟨belowK_b (w := W6) (by omega) W l o o' hl ho hc hwk, (belowK_b (n₀ := w4.heap.size + 4) (w := W6) (by omega) W l o o' hl ho hc hwk).cell (p := ⟨w4.heap.size + 1 + 1 + 1, 0, none⟩) (by simp)⟩) (Below.refl _ _) (fun _ => rfl)
    (fun pre W => (∃ cs f, Blk W w4.heap.size 34 cs ∧ Owns W (w.heap.size + 3) cs (redR ((feeSum l (val z) (pre.map (·.1)) : Nat) : Int) (10 ^ 30)) f ∧ f.Nodup) ∧ Blk W (w4.heap.size + 1) 4 [.bool true] ∧ Blk W w.heap.size 37 [.slice (some ⟨b, off, none⟩) n c] ∧ Blk W (w.heap.size + 1) 30 [.bool b0, .slice q m d] ∧ Blk W (w.heap.size + 1 + 1) 34 [.bool false, .slice none 0 0, .slice none 0 0] ∧ w4.heap.size + 4 ≤ W.heap.size ∧ Below w.heap.size w W)
    (fun _ _ _ => False)
    (fun s A B row hs hg hr => by
      obtain ⟨⟨cs, f, i1, i2, i3⟩, i4, i5, i6, i7, i8, i9⟩ := hs
      refine ⟨⟨cs, f, blk_grow i1 hg hr, owns_grow hg hr i2, i3⟩, blk_grow i4 hg hr, blk_grow i5 hg hr, blk_grow i6 hg hr, blk_grow i7 hg hr, Nat.le_trans i8 hg.size, ?_⟩
      exact i9.grown hg i9.size (fun k e => by have := (hr k e).1; omega))
    (fun _ _ _ _ _ hs _ _ => hs)
    ⟨⟨_, fz, n2, o6, ndz⟩, n3, p0, p1, p2, by omega, hB0⟩
    (fun x a' W => ∃ Bx, W6.heap.size ≤ Bx ∧ Blk W Bx 62 (RC x.1) ∧ a' = { tmps := ⟨TM x.1 Bx⟩, defers := [] })
    (fun x a' s A B row hs hg hr => by
      obtain ⟨Bx, j1, j2, j3⟩ := hs
      exact ⟨Bx, j1, blk_grow j2 hg hr, j3⟩)
    ?assign ?body ?done ?stop
  case assign =>
    intro l' pre x W Kk hI hK
    have hI' := hI
    obtain ⟨_, _, _, _, _, i8, i9⟩ := hI'
    simp only [hRC]
    gi_wp2_with (simp [Oper.semAt_some, go_sem])
    have hal : Below w.heap.size W (W.alloc (.cells ⟨RC x.1⟩ 62)) := (Below.refl _ _).alloc i9.size _
    have hal2 : Ext W (W.alloc (.cells ⟨RC x.1⟩ 62)) := (Below.refl _ _).alloc (Nat.le_refl _) _
    subst hTM hRC
    obtain ⟨⟨cs, f, j1, j2, j3⟩, j4, j5, j6, j7, j8, j9⟩ := hI
    refine hK _ _ ((KeepsOthers.alloc _ _).from _) ⟨hal, hal2.cell (p := ⟨w4.heap.size + 1 + 1 + 1, 0, none⟩) (show w4.heap.size + 1 + 1 + 1 < W.heap.size by omega)⟩ ⟨⟨cs, f, j1.ext hal2, j2.ext hal2, j3⟩, j4.ext hal2, j5.ext hal2, j6.ext hal2, j7.ext hal2, Nat.le_trans j8 hal2.le, j9.trans hal⟩ ⟨W.heap.size, by omega, heap_alloc_new W _, rfl⟩
  case body =>
    rintro l' pre x a' W hl hlr ⟨⟨cs, f, i1, i2, i3⟩, i4, i5, i6, i7, i8, i9⟩ ⟨Bx, hBx, hbx, rfl⟩ hlen
    have hxl : x.1 < l.length := by have := x.2; omega
    have hxn : x.1 < n := by omega
    have hFv : stepFrom (l.getD x.1 []) ≤ val z := by simpa using hK1 x.1 x.2
    have hrc : Reps w (RC x.1) (l[x.1]) := by
      have := (ht x.1 hxn).2
      rw [hRC]
      rw [← getD_lt (d := []) hxl]
      exact this
    have hV : feeSum l (val z) (pre.map (·.1)) + feeV l (val z) x.1 ≤ 9 * (1000000000000000000000000000000000000 * 1000000000 * 1000000000000000000000000000000) := by
      have h1 := feeSum_bound hall hc hvb (pre.map (·.1) ++ [x.1]) (fun y hy => by
        rcases List.mem_append.1 hy with h | h
        · obtain ⟨u, _, rfl⟩ := List.mem_map.1 h
          have := u.2; omega
        · simp at h; omega)
      rw [feeSum_snoc] at h1
      refine Nat.le_trans h1 (Nat.mul_le_mul_right _ ?_)
      simp; omega
    have hbody := impl_FeeExact_body_n (B := w.heap.size + 3) (q2 := w.heap.size) (q3 := w.heap.size + 1) (q6 := w4.heap.size) (q7 := w4.heap.size + 1) (q9 := Bx) (zf := fun k => (TM x.1 Bx).getD k undef) i9 hrw hc hz hcan hz4 (by omega) hall i5 i6 i1 i4 hbx hxl hrc hFv (by omega) i2 (by omega) hV
    rw [impl_FeeExact_body_eq] at hbody
    subst hTM
    refine wpIn_of_bsem (by kernel_rfl) rfl (by kernel_rfl) (fun ⟨_, _, h⟩ => h) ?_ hbody
    rintro a'' W' ⟨hch, ⟨cs', f', c1, c2, c3⟩, c4⟩
    have hbel : Below w.heap.size W W' := below_chg hch (fun k hk => by simp at hk; omega) i9.size
    have hb3 := hch.block (w4.heap.size + 1 + 1 + 1) (by omega) (by simp; omega)
    exact ⟨keepsFrom_chg hch (fun k hk => by simp at hk; omega), ⟨hbel, by simp only [World.cell?]; rw [hb3]⟩, ⟨cs', f', c1, by rw [List.map_append, show List.map (fun x => x.1) [x] = [x.1] from rfl, feeSum_snoc]; exact c2, c3⟩, c4, i5.chg hch (by simp; omega), i6.chg hch (by simp; omega), i7.chg hch (by simp; omega), Nat.le_trans i8 hch.size, i9.trans hbel⟩
  case done =>
    rintro D ys W hD hS' ⟨⟨cs, f, i1, i2, i3⟩, i4, i5, i6, i7, i8, i9⟩ hK'
    rw [hS'] at i2
    obtain ⟨u0, up, un, uc, uz, up2, un2, uc2, uz2, rfl, _, _, _⟩ := open_Rat i2.reps (redR_code _ _)
    have c0 := i1.cell 0
    have c1 := i1.cell 1
    have c2 := i1.cell 2
    have c3 := i4.cell 0
    have r0 := i7.cell 0
    have r1 := i7.cell 1
    have r2 := i7.cell 2
    have f0 := blk_frozen (k := 0) i7
    have f1 := blk_frozen (k := 1) i7
    have f2 := blk_frozen (k := 2) i7
    simp only [List.getElem?_cons_zero, List.getElem?_cons_succ] at c0 c1 c2 c3 r0 r1 r2
    gi_wp2
    obtain ⟨g0, ch0⟩ := blk_setCell (k := 0) i7 (.bool u0)
    obtain ⟨g1, ch1⟩ := blk_setCell (k := 1) g0 (.slice up un uc)
    obtain ⟨g2, ch2⟩ := blk_setCell (k := 2) g1 (.slice up2 un2 uc2)
    have hch := (ch0.trans ch1).trans ch2
    revert g2 hch
    generalize ((W.setCell ⟨w.heap.size + 1 + 1, 0, none⟩ (.bool u0)).setCell ⟨w.heap.size + 1 + 1, 1, none⟩ (.slice up un uc)).setCell ⟨w.heap.size + 1 + 1, 2, none⟩ (.slice up2 un2 uc2) = W3
    intro g2 hch
    have hD2 : W3.heap[D]? = some (.deferred (some [])) := (hch.block D (Array.getElem?_eq_some_iff.1 hK').1 (by simp; omega)).trans hK'
    have hlast : lastLe l (val z) l.length = (K : Int) - 1 := by
      have h1 := lastLe_range hln hK (fun j hj => by simpa using hK1 j hj) (fun hKn => by simpa using hK2 hKn) hn1 hz0 hall
      rw [← h1]
      cases K with
      | zero => rfl
      | succ K => rw [List.range_succ, lastI_snoc]; omega
    refine ⟨by simp, .inl ⟨_, _, rfl, run_takeDeferred hD2, ?_⟩⟩
    have o3 := i2.chg hch (fun k hk hm => by have := (i2.lt k hk).1; simp at hm; omega)
    have hg := grownBy_putObj' W3 D (.deferred none)
    have hr : ∀ r, some D = some r → w.heap.size ≤ r ∧ ∃ o : Obj, W3.heap[r]? = some o ∧ o.isCells = false := fun r e => by cases e; exact ⟨by omega, _, hD2, rfl⟩
    have g4 := blk_grow g2 hg hr
    have o4 := (owns_grow hg hr o3).mono (B' := w.heap.size) (by omega)
    have b3 : Below w.heap.size W3 (W3.putObj D (.deferred none)) := belowK_b (w := w) (Nat.le_refl _) W3 D _ (.deferred none) (by omega) hD2 rfl rfl
    have b4 : Below w.heap.size W W3 := below_chg hch (fun k hk => by simp at hk; omega) i9.size
    have hlast' : (lastLe l (val z) n + 1).toNat = K := by rw [← hln, hlast]; omega
    refine ⟨_, results_cell_tmp rfl rfl rfl (Blk.loadA0 g4 (by kernel_rfl)), _, rfl, _, rfl, f, ?_, i3, (i9.trans b4).trans b3⟩
    rw [hlast']
    exact o4
  case stop =>
    rintro D c' pre W hD _ hf _
    exact hf.elim
end Go.Proofs.YtmajiilehdpdmaaGreatDoor

namespace Go.Proofs.YtmajiilehdpdmaaGreatDoor
open Go Go.Proofs.YtmajiilehdpdmaaGreatDoor.Sx
set_option linter.unusedVariables false
set_option linter.unusedSimpArgs false
def sizeAt (l : List (List D0)) (v : Int) (K j : Nat) : Int := if j = K then v else stepFrom (l.getD j [])
def feeFrom (l : List (List D0)) (v : Int) (K j : Nat) : Nat := feeSum l v ((List.range K).drop j)
theorem feeFrom_top (l : List (List D0)) (v : Int) (K : Nat) : feeFrom l v K K = 0 := by
  unfold feeFrom
  rw [List.drop_of_length_le (by simp)]
  rfl
theorem feeFrom_zero (l : List (List D0)) (v : Int) (K : Nat) : feeFrom l v K 0 = feeSum l v (List.range K) := by simp [feeFrom]
theorem feeFrom_step (l : List (List D0)) (v : Int) {K x : Nat} (h : x < K) : feeFrom l v K x = feeFrom l v K (x + 1) + feeV l v x := by
  have e : (List.range K).drop x = x :: (List.range K).drop (x + 1) := by
    rw [List.drop_eq_getElem_cons (by simpa using h)]
    simp
  unfold feeFrom
  rw [e]
  simp only [feeSum, List.map_cons, List.sum_cons]
  omega
theorem redN_one (c : Nat) : redN (c : Int) 1 = c ∧ redD (c : Int) 1 = 1 := by
  have h : Nat.gcd c 1 = 1 := Nat.gcd_one_right c
  unfold redN redD
  rw [Int.natAbs_natCast, h, Nat.div_one, if_neg (by omega)]
  exact ⟨rfl, rfl⟩
theorem spec_FeeExact_no {w : World} {p : Option Addr} {n c : Nat} {l : List (List D0)} {xs : List Value} {b : Bool} {z : List Int} (h : RowsR w 4 p n c l) (hc : ∀ x ∈ l, x.map D0.code = [.int, .bool, .ints, .int]) (g : Reps w xs [.bool b, .ints z]) (hno : (stepsOk l && intOk [.bool b, .ints z] && decide (z.length ≤ 4)) = false) :
    Ret P n_spec_FeeExact [.slice p n c, .agg ⟨xs⟩] w fun v w' => ∃ vs f, v = .tuple #[.agg ⟨vs⟩, .bool false] ∧ Owns w' w.heap.size vs rat0 f ∧ f.Nodup ∧ Ext w w' := by
  have gr := g
  obtain ⟨b0, q, m, d, z0, rfl, he, hz⟩ := open_Signed g rfl
  cases he
  have hzl := hz.1
  refine spec_FeeExact_ret ?_
  unfold spec_FeeExact
  intro r1 w2 hn2 r2 w3 hn3
  have e2 := hn2.r_eq; have e3 := hn3.r_eq; have z2 := hn2.size; have z3 := hn3.size
  have X := hn2.ext.trans hn3.ext
  have q1 := hn2.blk.ext hn3.ext; have q2 := hn3.blk
  have zero : ∀ W, Ext w3 W → ∃ W', Stores P T_impl_Rat ⟨r2, 0, none⟩ (.agg ⟨[.bool false, .slice none 0 0, .slice none 0 0]⟩) W W' ∧ ∃ (rb : Bool) (rp : Option Addr) (rn rc : Nat) (rp2 : Option Addr) (rn2 rc2 : Nat), Loads P T_impl_Rat ⟨r2, 0, none⟩ (.agg #[.bool rb, .slice rp rn rc, .slice rp2 rn2 rc2]) W' ∧ (fun (v : Value) (w' : World) => ∃ vs f, v = .tuple #[.agg ⟨vs⟩, .bool false] ∧ Owns w' w.heap.size vs rat0 f ∧ f.Nodup ∧ Ext w w') (.tuple #[.agg #[.bool rb, .slice rp rn rc, .slice rp2 rn2 rc2], .bool false]) W' := by
    intro W hW
    have lW := hW.le
    obtain ⟨W', st', ld', ow', xx', _, _⟩ := agg_end (t := T_impl_Rat) (q2.ext hW) (X.trans hW) (by omega) (own_rat0 W (r2 + 1)) (by kernel_rfl) rfl (by omega) (by omega)
    exact ⟨W', st', _, _, _, _, _, _, _, ld', _, [], rfl, ow', List.nodup_nil, xx'⟩
  refine Ret.at (spec_StepsOk_c (h.ext X) hc) ?_
  rintro v w4 ⟨hv, y4⟩
  subst hv
  refine ⟨_, rfl, ifN (fun _ => ifT (ifT (zero _ y4))) (fun hs => ⟨_, _, _, _, (q1.ext y4).loadA0 (by kernel_rfl), ?_⟩)⟩
  refine Ret.at (spec_IntOk_c (gr.ext (X.trans y4)) rfl) ?_
  rintro v w5 ⟨hv, y5⟩
  subst hv
  have Y5 := y4.trans y5
  refine ⟨_, rfl, ifN (fun _ => ifT (zero _ Y5)) (fun hi => ⟨_, _, _, (q1.ext Y5).loadAt 1 rfl (by kernel_rfl) rfl, ifD (fun _ => zero _ Y5) (fun hge => ?_)⟩)⟩
  rw [hs, hi, decide_eq_true (show z.length ≤ 4 by omega)] at hno
  cases hno
theorem spec_FeeExact_yes {w : World} {p : Option Addr} {n c : Nat} {l : List (List D0)} {xs : List Value} {b0 : Bool} {z : List Int} (h : RowsR w 4 p n c l) (hc : ∀ x ∈ l, x.map D0.code = [.int, .bool, .ints, .int]) (g : Reps w xs [.bool b0, .ints z]) (hs : stepsOk l = true) (hi : intOk [.bool b0, .ints z] = true) (hz4 : z.length ≤ 4) :
    Ret P n_spec_FeeExact [.slice p n c, .agg ⟨xs⟩] w fun v w' => ∃ vs f, v = .tuple #[.agg ⟨vs⟩, .bool true] ∧ Owns w' w.heap.size vs (redR ((feeSum l (val z) (List.range (lastLe l (val z) l.length + 1).toNat) : Nat) : Int) (10 ^ 30)) f ∧ f.Nodup ∧ Ext w w' := by
  have gr := g
  obtain ⟨b1, q, m, d, z1, rfl, hez, hz⟩ := open_Signed g rfl
  simp only [List.cons.injEq, D0.bool.injEq, D0.ints.injEq, and_true] at hez
  obtain ⟨rfl, rfl⟩ := hez
  have hcan : Canon z := by
    obtain ⟨_, b', z', he, hcan, _⟩ := intOk_enc hi
    simp only [List.cons.injEq, D0.bool.injEq, D0.ints.injEq, and_true] at he
    obtain ⟨_, rfl⟩ := he
    exact hcan
  have hln := h.1
  have hzl := hz.1
  have hv0 := val_nonneg hcan.1
  have hdz : digs (val z).toNat = z := digs_val hcan
  have hvb : val z < 1000000000000000000000000000000000000 := by
    have h1 := val_lt hcan.1
    have h2 : z.length = 0 ∨ z.length = 1 ∨ z.length = 2 ∨ z.length = 3 ∨ z.length = 4 := by omega
    rcases h2 with e | e | e | e | e <;> rw [e] at h1 <;> simp at h1 <;> omega
  have hat : stepAt l [.bool b0, .ints z] = lastLe l (val z) l.length := by simp only [stepAt, hs, hi, Bool.and_self, if_true]
  have hs0 := hs
  simp only [stepsOk, Bool.and_eq_true, decide_eq_true_eq, List.all_eq_true, List.mem_range] at hs
  obtain ⟨⟨⟨hn1', hn8⟩, hz0⟩, hall⟩ := hs
  obtain ⟨b, off, hp, hrows⟩ := h.2.2.2 (by omega)
  subst hp
  obtain ⟨K, hK, hK1, hK2⟩ := upto_le (fun j => decide (stepFrom (l.getD j []) ≤ val z)) n
  have hlast : lastLe l (val z) l.length = (K : Int) - 1 := by
    have h1 := lastLe_range hln hK (fun j hj => by simpa using hK1 j hj) (fun hKn => by simpa using hK2 hKn) hn1' hz0 hall
    rw [← h1]
    cases K with
    | zero => rfl
    | succ K => rw [List.range_succ, lastI_snoc]; omega
  rw [hlast, show ((K : Int) - 1 + 1).toNat = K by omega]
  have hend : ∀ x, x < K → endOf l (val z) x = sizeAt l (val z) K (x + 1) := by
    intro x hx
    unfold endOf sizeAt
    by_cases e : x + 1 = K
    · rw [if_pos e]
      by_cases hlt : x + 1 < l.length
      · have h2 := hK2 (by omega)
        rw [← e] at h2
        simp only [decide_eq_false_iff_not] at h2
        rw [if_neg (by omega)]
      · rw [if_neg (by omega)]
    · rw [if_neg e]
      have h1 := hK1 (x + 1) (by omega)
      simp only [decide_eq_true_eq] at h1
      by_cases hl2 : stepFrom (l.getD (x + 1) []) < val z
      · rw [if_pos ⟨by omega, hl2⟩]
      · rw [if_neg (by omega)]; omega
  have hsize : ∀ j, j ≤ K → 0 ≤ sizeAt l (val z) K j ∧ sizeAt l (val z) K j ≤ val z := by
    intro j hj
    unfold sizeAt
    by_cases e : j = K
    · rw [if_pos e]; omega
    · rw [if_neg e]
      have h1 := hK1 j (by omega)
      simp only [decide_eq_true_eq] at h1
      obtain ⟨F, mm, t, el, eg, hF, hmm, ht, e1, e2, e3⟩ := step_row hall hc (x := j) (by omega)
      rw [e1] at h1 ⊢
      omega
  have hsum : ∀ j, feeFrom l (val z) K j ≤ 8 * (1000000000000000000000000000000000000 * 1000000000 * 1000000000000000000000000000000) := by
    intro j
    have h1 := feeSum_bound hall hc hvb ((List.range K).drop j) (fun x hx => by have := List.mem_range.1 (List.mem_of_mem_drop hx); omega)
    have h2 : ((List.range K).drop j).length ≤ 8 := by simp; omega
    exact Nat.le_trans h1 (Nat.mul_le_mul_right _ h2)
  refine spec_FeeExact_ret ?_
  unfold spec_FeeExact
  intro r1 w2 hn2 r2 w3 hn3
  have e2 := hn2.r_eq; have e3 := hn3.r_eq; have z2 := hn2.size; have z3 := hn3.size
  have X := hn2.ext.trans hn3.ext
  have q1 := hn2.blk.ext hn3.ext; have q2 := hn3.blk
  refine Ret.at (spec_StepsOk_c (h.ext X) hc) ?_
  rintro v w4 ⟨hv, y4⟩
  subst hv
  rw [hs0]
  refine ⟨_, rfl, ifN (fun hh => absurd hh (by simp)) (fun _ => ⟨_, _, _, _, (q1.ext y4).loadA0 (by kernel_rfl), ?_⟩)⟩
  refine Ret.at (spec_IntOk_c (gr.ext (X.trans y4)) rfl) ?_
  rintro v w5 ⟨hv, y5⟩
  subst hv
  rw [hi]
  have Y5 := y4.trans y5
  refine ⟨_, rfl, ifN (fun hh => absurd hh (by simp)) (fun _ => ⟨_, _, _, (q1.ext Y5).loadAt 1 rfl (by kernel_rfl) rfl, ifD (fun hh => absurd hh (by omega)) (fun hge => ?_)⟩)⟩
  unfold spec_FeeExact_j0
  refine Ret.at (spec_RatZero_c _) ?_
  rintro v w6 ⟨vsz, fz, hv, oz, ndz, y6⟩
  subst hv
  obtain ⟨t0, tp, tn, tc, tz, tp2, tn2, tc2, tz2, rfl, _, _, _⟩ := open_Rat oz.reps rfl
  refine ⟨_, _, _, _, _, _, _, rfl, ?_⟩
  intro r3 w7 hn7
  have e7 := hn7.r_eq; have z7 := hn7.size
  have Y6 := Y5.trans y6
  have l5 := Y5.le; have l6 := y6.le
  obtain ⟨w8, st8, bk8, y8⟩ := hn7.fill (P := P) (t := T_impl_Rat) (xs := [.bool t0, .slice tp tn tc, .slice tp2 tn2 tc2]) oz.reps.cells1 (by kernel_rfl) rfl
  have Y8 := Y6.trans y8
  refine ⟨w8, st8, _, _, _, _, (q1.ext Y8).loadA0 (by kernel_rfl), ?_⟩
  refine Ret.at (spec_IntAbs_n (gr.ext (X.trans Y8)) hi hcan) ?_
  rintro v w9 ⟨vs9, f9, hv, ho9, nd9, y9⟩
  subst hv
  obtain ⟨g0, gp, gn, gc', gz, rfl, _, _⟩ := open_Signed ho9.reps (enc_code _)
  refine ⟨_, _, _, _, rfl, ?_⟩
  intro r4 w10 hn10
  have e10 := hn10.r_eq; have z10 := hn10.size
  have l8 := y8.le; have l9 := y9.le
  obtain ⟨w11, st11, bk11, y11⟩ := hn10.fill (P := P) (t := T_impl_Signed) (xs := [.bool g0, .slice gp gn gc']) ho9.reps.cells1 (by kernel_rfl) rfl
  have Y11 := (Y8.trans y9).trans y11
  have l11 := y11.le
  refine ⟨w11, st11, _, _, _, _, (q1.ext Y11).loadA0 (by kernel_rfl), ?_⟩
  refine Ret.at (spec_StepAt_c (h.ext (X.trans Y11)) hc (gr.ext (X.trans Y11)) rfl) ?_
  rintro v w12 ⟨hv, y12⟩
  subst hv
  rw [hat, hlast]
  have Y12 := Y11.trans y12
  have X12 := X.trans Y12
  have hz30 : ratZeroD = redR ((0 : Nat) : Int) (10 ^ 30) := by
    show ratZeroD = redR (0 : Int) (10 ^ 30)
    decide +kernel
  have l12 := y12.le
  refine ⟨_, rfl, fun i wr => ∃ j : Nat, i = (j : Int) - 1 ∧ j ≤ K ∧ (∃ cs f, Blk wr r3 T_impl_Rat cs ∧ Owns wr w.heap.size cs (redR ((feeFrom l (val z) K j : Nat) : Int) (10 ^ 30)) f ∧ f.Nodup ∧ r2 ∉ f) ∧ (∃ cs f, Blk wr r4 T_impl_Signed cs ∧ Owns wr w.heap.size cs (enc (sizeAt l (val z) K j)) f) ∧ Blk wr r2 T_impl_Rat [.bool false, .slice none 0 0, .slice none 0 0] ∧ Ext w wr, fun i _ => (i + 1).toNat, ?_, ?_⟩
  · refine ⟨K, rfl, Nat.le_refl _, ⟨_, fz, ((bk8.ext y9).ext y11).ext y12, ?_, ndz, fun hm => ?_⟩, ⟨_, f9, bk11.ext y12, ?_⟩, q2.ext Y12, X12⟩
    · rw [feeFrom_top, ← hz30]
      exact ((oz.ext ((y8.trans y9).trans (y11.trans y12))).mono (by omega))
    · have := (oz.lt r2 hm).1; omega
    · rw [show sizeAt l (val z) K K = val z by simp [sizeAt]]
      exact (ho9.ext (y11.trans y12)).mono (by omega)
  intro junk wr i ⟨j, hij, hjK, ⟨cs, f, b3, ho, hnd, hr2⟩, ⟨cs4, f4, b4, ho4⟩, b2, hx⟩
  have lb8 := bk8.lt
  have lb11 := bk11.lt
  have n34 : r3 ≠ r4 := by omega
  have n23 : r2 ≠ r3 := by omega
  have n24 : r2 ≠ r4 := by omega
  refine ifD (fun hge0 => ?_) (fun hlt0 => ?_)
  rotate_left
  · have hij' : i = (j : Int) - 1 := hij
    have hlt' : ¬ (0 : Int) ≤ i := hlt0
    have hj0 : j = 0 := by omega
    subst hj0
    rw [feeFrom_zero] at ho
    obtain ⟨j0, jp, jn, jc, jz, jp2, jn2, jc2, jz2, rfl, _, _, _⟩ := open_Rat ho.reps (redR_code _ _)
    refine ⟨_, _, _, _, _, _, _, b3.loadA0 (by kernel_rfl), ?_⟩
    obtain ⟨w', st', bq, ch, _⟩ := b2.storeA0 (P := P) (t := T_impl_Rat) (xs := [.bool j0, .slice jp jn jc, .slice jp2 jn2 jc2]) (by kernel_rfl) rfl ho.reps.cells1
    exact ⟨w', st', _, _, _, _, _, _, _, bq.loadA0 (by kernel_rfl), _, f, rfl, ho.chg ch (fun k hk hm => hr2 (by simp at hm; rwa [← hm])), hnd, hx.chg ch (by simp; omega)⟩
  obtain ⟨x, rfl⟩ : ∃ x, j = x + 1 := ⟨j - 1, by omega⟩
  have hxi : i = (x : Int) := by omega
  subst hxi
  have hxl : x < l.length := by omega
  obtain ⟨F, mm, t, el, eg, hF, hmm, ht, s1, s2, s3⟩ := step_row hall hc hxl
  have hd := Ext.drew wr
  have hrow : ∃ dp dn dc, Seg w b (off + x * 4) [.int .i64 (F : Int), .bool false, .slice dp dn dc, .int .i64 (t : Int)] ∧ IntsR w dp dn dc (digs mm) := by
    obtain ⟨cs, hk, hr, hsg⟩ := hrows x _ (List.getElem?_eq_getElem hxl)
    rw [el] at hr
    obtain ⟨a0, a1, dp, dn, dc, dz, a3, rfl, hd, hdi⟩ := open_Step hr rfl
    simp only [List.cons.injEq, D0.int.injEq, D0.bool.injEq, D0.ints.injEq, and_true] at hd
    obtain ⟨rfl, rfl, rfl, rfl⟩ := hd
    exact ⟨dp, dn, dc, hsg, hdi⟩
  obtain ⟨dp, dn, dc, hsg, hdi⟩ := hrow
  have hFv : (F : Int) ≤ val z := by
    have h1 := hK1 x (by omega)
    simp only [decide_eq_true_eq] at h1
    rw [← s1]; exact h1
  obtain ⟨E, hE, hEv⟩ : ∃ E : Nat, sizeAt l (val z) K (x + 1) = (E : Int) ∧ (E : Int) ≤ val z := ⟨(sizeAt l (val z) K (x + 1)).toNat, by have := (hsize (x + 1) hjK).1; omega, by have := (hsize (x + 1) hjK); omega⟩
  have hFE : F ≤ E := by
    have h1 := hend x (by omega)
    rw [hE] at h1
    unfold endOf at h1
    split at h1
    · rename_i hcnd
      have := steps_up hall x (x + 1) (by omega) hcnd.1
      rw [s1] at this; omega
    · omega
  have hfee : feeV l (val z) x = (E - F) * mm * 10 ^ (30 - t) := by
    unfold feeV
    rw [hend x (by omega), hE, s1, s2, s3, show ((E : Int) - (F : Int)).toNat = E - F by omega]
  have hstep := feeFrom_step l (val z) (K := K) (x := x) (by omega)
  rw [hfee] at hstep
  have hsx := hsum x
  rw [hE] at ho4
  obtain ⟨v1, v2, v3⟩ := fee_ok (V := feeFrom l (val z) K (x + 1)) (by have := hsum (x + 1); omega)
  obtain ⟨u1, u2, u3⟩ := fee_ok (V := (E - F) * mm * 10 ^ (30 - t)) (by omega)
  obtain ⟨p1, p2, p3⟩ := fee_ok (V := feeFrom l (val z) K x) (by omega)
  obtain ⟨k0, kp, kn, kc, kz, rfl, _, _⟩ := open_Signed ho4.reps (enc_code _)
  have XD := hx.trans hd
  refine ⟨_, _, _, _, fun W hW => ((b4.ext hd).ext hW).loadA0 (by kernel_rfl), ⟨by omega, by omega⟩, _, fun W hW => (hsg.ext (XD.trans hW)).loadAt 0 (by simp [Addr.add]) (by kernel_rfl) rfl, ?_⟩
  intro ss wa Fa
  have S1 := (FlSt.start (o := .cells ⟨[.bool false, .slice none 0 0, .slice none 0 0]⟩ T_impl_Rat (0, 0)) wr.drew).step Fa
  refine Ret.at (spec_IntOf_c (n := (F : Int)) (by omega) (by omega)) ?_
  rintro v wb ⟨vsb, fb, hv, hob, _, yb⟩
  subst hv
  obtain ⟨g0, gp, gn, gc', gz, rfl, _, _⟩ := open_Signed hob.reps (enc_code _)
  refine ⟨_, _, _, _, rfl, yb, ?_⟩
  intro ss1 wc Fc
  have S2 := (S1.ext yb).step Fc
  refine Ret.at (spec_IntSub_n (ho4.reps.ext (hd.trans S2.1)) (hob.reps.ext Fc.ext) (by omega) (by omega)) ?_
  rintro v wd ⟨vsd, fd, hv, hod, _, yd⟩
  subst hv
  obtain ⟨u0, up, un, uc, uz, rfl, _, _⟩ := open_Signed hod.reps (enc_code _)
  refine ⟨_, _, _, _, rfl, ?_⟩
  intro ss2 we Fe
  have S3 := (S2.ext yd).step Fe
  have hEF : (E : Int) - (F : Int) = ((E - F : Nat) : Int) := by omega
  rw [hEF] at hod
  have hEl : (digs (E - F)).length ≤ 5 := by
    have h1 := digs_mono_len (x := E - F) (y := (val z).toNat) (by omega)
    rw [hdz] at h1
    omega
  refine Ret.at (spec_RatInt_n (hod.reps.ext Fe.ext) (by rw [Int.natAbs_natCast]; omega)) ?_
  rintro v wf ⟨vsf, ff, hv, hof, _, yf⟩
  subst hv
  have i1 : redOk ((E - F : Nat) : Int) 1 = true := redOk_small (by rw [Int.natAbs_natCast]; omega) (by rw [digs_one]; decide)
  rw [redR_yes i1, (redN_one _).1, (redN_one _).2] at hof
  have i3 : ratOk (rmk ((E - F : Nat) : Int) 1) = true := rmk_int_ok (by rw [Int.natAbs_natCast]; omega)
  obtain ⟨y0, yp, yn, yc, yz, yp2, yn2, yc2, yz2, rfl, _, _, _⟩ := open_Rat hof.reps (rmk_code _ _)
  refine ⟨_, _, _, _, _, _, _, _, rfl, ?_⟩
  intro ss3 wg rg Fg Gg
  have S4 := (S3.ext yf).step Fg
  obtain ⟨hrg, hbg⟩ := S4.get Gg
  have Bg : Blk wg rg T_impl_Rat [.bool false, .slice none 0 0, .slice none 0 0] := hbg
  obtain ⟨wh, sth, bh, chh, zh⟩ := Bg.storeA0 (P := P) (t := T_impl_Rat) (xs := [.bool y0, .slice yp yn yc, .slice yp2 yn2 yc2]) (by kernel_rfl) rfl (hof.reps.cells1)
  have hni := Owns.notin Bg (by decide) (hof.ext Fg.ext)
  have hoh := (hof.ext Fg.ext).chg chh (fun k hk hm' => hni (by simp at hm'; rwa [← hm']))
  have Z1 : Ext wr.drew wh := S4.1.chg chh (by simp; exact hrg)
  have Xh := hd.trans Z1
  have dh := Ext.drew wh
  have XXh := hx.trans Xh
  refine ⟨wh, sth, _, _, _, _, _, _, _, fun W hW => ((bh.ext dh).ext hW).loadA0 (by kernel_rfl), ⟨by omega, by omega⟩, _, _, _, _, _, fun W hW => (hsg.ext ((XXh.trans dh).trans hW)).loadAAt 1 [.bool false, .slice dp dn dc, .int .i64 (t : Int)] (by simp only [Int.toNat_natCast, addr_add]) (by kernel_rfl) rfl, ?_⟩
  intro ss4 wi Fi
  have S5 := (FlSt.start (o := .cells ⟨[.bool false, .slice none 0 0, .slice none 0 0]⟩ T_impl_Rat (0, 0)) wh.drew).step Fi
  have hdr : Reps wi [.bool false, .slice dp dn dc, .int .i64 (t : Int)] (dnn mm (t : Int)) := ⟨rfl, ⟨_, _, _, rfl, hdi.ext ((XXh.trans dh).trans S5.1)⟩, rfl, trivial⟩
  refine Ret.at (spec_DecRat_n hdr (Nat.le_trans (one_len hmm) (by decide)) ht) ?_
  have hpow : 0 < 10 ^ t := Nat.pow_pos (by decide)
  have d1 := redOk_small (n := (mm : Int)) (d := 10 ^ t) (by rw [Int.natAbs_natCast]; have := one_len hmm; omega) (by have := ten_len ht; omega)
  have d2 := redR_yes d1
  have d3 := redR_ok hpow d1
  rw [d2] at d3
  rintro v wj ⟨vsj, fj, hv, hoj, _, yj⟩
  subst hv
  rw [d2] at hoj
  obtain ⟨x0, xp, xn, xc, xz, xp2, xn2, xc2, xz2, rfl, _, _, _⟩ := open_Rat hoj.reps (rmk_code _ _)
  refine ⟨_, _, _, _, _, _, _, rfl, yj, ?_⟩
  intro ss5 wk Fk
  have S6 := (S5.ext yj).step Fk
  refine Ret.at (spec_RatMul_n (hoh.reps.ext (dh.trans S6.1)) (hoj.reps.ext Fk.ext) i3 d3) ?_
  rintro v wl ⟨vsl, fl, hv, hol, _, yl⟩
  subst hv
  obtain ⟨r1', r2'⟩ := red_dec (c := E - F) (m := mm) ht
  rw [r1', u2] at hol
  obtain ⟨h0, hp1, hn1, hc1, hz1, hp2, hn2', hc2, hz2, rfl, _, _, _⟩ := open_Rat hol.reps (rmk_code _ _)
  refine ⟨_, _, _, _, _, _, _, _, rfl, ?_⟩
  intro ss6 wm rm Fm Gm
  have S7 := (S6.ext yl).step Fm
  obtain ⟨hrm, hbm⟩ := S7.get Gm
  have Bm : Blk wm rm T_impl_Rat [.bool false, .slice none 0 0, .slice none 0 0] := hbm
  obtain ⟨wn, stn, bn, chn, zn⟩ := Bm.storeA0 (P := P) (t := T_impl_Rat) (xs := [.bool h0, .slice hp1 hn1 hc1, .slice hp2 hn2' hc2]) (by kernel_rfl) rfl hol.reps.cells1
  have hnm := Owns.notin Bm (by decide) (hol.ext Fm.ext)
  have hon := (hol.ext Fm.ext).chg chn (fun k hk hm' => hnm (by simp at hm'; rwa [← hm']))
  have Z2 : Ext wh.drew wn := S7.1.chg chn (by simp; exact hrm)
  have Xn := (Xh.trans dh).trans Z2
  rw [v2] at ho
  have hor := ho.reps
  obtain ⟨t0, tp, tn, tc, tz, tp2, tn2, tc2, tz2, rfl, _, _, _⟩ := open_Rat hor (rmk_code _ _)
  refine ⟨wn, stn, _, _, _, _, _, _, _, (b3.ext Xn).loadA0 (by kernel_rfl), _, _, _, _, _, _, _, bn.loadA0 (by kernel_rfl), ?_⟩
  refine Ret.at (spec_RatAdd_n (hor.ext Xn) hon.reps v3 u3) ?_
  rintro v wo ⟨vso, fo, hv, hoo, ndo, yo⟩
  subst hv
  obtain ⟨a1, a2⟩ := red_add (V := ((feeFrom l (val z) K (x + 1) : Nat) : Int)) (v := (((E - F) * mm * 10 ^ (30 - t) : Nat) : Int)) (X := 10 ^ 30) (Nat.pow_pos (by decide))
  rw [a1, ← Int.natCast_add, ← hstep] at hoo
  obtain ⟨j0, jp, jn, jc, jz, jp2, jn2, jc2, jz2, rfl, _, _, _⟩ := open_Rat hoo.reps (redR_code _ _)
  have Xo := Xn.trans yo
  have lx := hx.le; have lxn := Xn.le; have lo := yo.le
  have lb2 := b2.lt; have lb3 := b3.lt; have lb4 := b4.lt
  refine ⟨_, _, _, _, _, _, _, _, rfl, ?_⟩
  obtain ⟨wp, stp, bp3, chp, zp⟩ := (b3.ext Xo).storeA0 (P := P) (t := T_impl_Rat) (xs := [.bool j0, .slice jp jn jc, .slice jp2 jn2 jc2]) (by kernel_rfl) rfl hoo.reps.cells1
  have hop := hoo.chg chp (fun k hk hm => by have := (hoo.lt k hk).1; simp at hm; omega)
  have Xp : Ext w wp := (hx.trans Xo).chg chp (by simp; omega)
  have bp4 := (b4.ext Xo).chg chp (by simp; omega)
  have bp2 := (b2.ext Xo).chg chp (by simp; omega)
  refine ⟨wp, stp, ⟨by omega, by omega⟩, _, (hsg.ext Xp).loadAt 0 (by simp [Addr.add]) (by kernel_rfl) rfl, ?_⟩
  refine Ret.at (spec_IntOf_c (n := (F : Int)) (by omega) (by omega)) ?_
  rintro v wq ⟨vsq, fq, hv, hoq, _, yq⟩
  subst hv
  obtain ⟨g0, gp, gn, gc', gz, rfl, _, _⟩ := open_Signed hoq.reps (enc_code _)
  refine ⟨_, _, _, _, rfl, ?_⟩
  obtain ⟨wt, stt, bt4, cht, zt⟩ := (bp4.ext yq).storeA0 (P := P) (t := T_impl_Signed) (xs := [.bool g0, .slice gp gn gc']) (by kernel_rfl) rfl hoq.reps.cells1
  have hot := hoq.chg cht (fun k hk hm => by have := (hoq.lt k hk).1; have := yq.le; simp at hm; omega)
  have hop2 := (hop.ext yq).chg cht (fun k hk hm => by have := (hoo.lt k hk).1; simp at hm; omega)
  refine ⟨wt, stt, exW ⟨by omega, by omega⟩ ⟨⟨x, rfl, by omega, ⟨_, fo, (bp3.ext yq).chg cht (by simp; omega), hop2.mono (by omega), ndo, fun hm => ?_⟩, ⟨_, fq, bt4, ?_⟩, (bp2.ext yq).chg cht (by simp; omega), (Xp.trans yq).chg cht (by simp; omega)⟩, ?_⟩⟩
  · have := (hoo.lt r2 hm).1; omega
  · have : sizeAt l (val z) K x = (F : Int) := by unfold sizeAt; rw [if_neg (by omega), s1]
    rw [this]
    exact hot.mono (by have := yq.le; omega)
  · show ((x : Int) - 1 + 1).toNat < ((x : Int) + 1).toNat
    omega
end Go.Proofs.YtmajiilehdpdmaaGreatDoor

namespace Go.Proofs.YtmajiilehdpdmaaGreatDoor
open Go Go.Proofs.YtmajiilehdpdmaaGreatDoor.Sx
set_option linter.unusedVariables false
set_option linter.unusedSimpArgs false
theorem feeR_cnt (n : Int) (d : Nat) : tcnts (redR n d) ≤ 100 := by
  unfold redR
  split
  · rename_i h
    simp only [redOk, Bool.and_eq_true, decide_eq_true_eq] at h
    simp only [rmk, tcnts, redN_abs]
    unfold redD
    omega
  · decide
theorem feeT_facts (l : List (List D0)) (dy : List D0) : ((feeT l dy).2).map D0.code = [.bool, .ints, .ints] ∧ tcnts (feeT l dy).2 ≤ 1000000000 := by
  unfold feeT
  split
  · rename_i b z
    split
    · have h := feeR_cnt ((feeSum l (val z) (List.range (lastLe l (val z) l.length + 1).toNat) : Nat) : Int) (10 ^ 30)
      exact ⟨redR_code _ _, by change tcnts (redR _ _) ≤ _; omega⟩
    · exact ⟨rfl, by decide⟩
  · exact ⟨rfl, by decide⟩
theorem impl_FeeExact_c {w : World} {p : Option Addr} {n c : Nat} {l : List (List D0)} {xs : List Value} {dy : List D0} (h : RowsR w 4 p n c l) (hc : ∀ x ∈ l, x.map D0.code = [.int, .bool, .ints, .int]) (g : Reps w xs dy) (gc : dy.map D0.code = [.bool, .ints]) :
    Ret P n_impl_FeeExact [.slice p n c, .agg ⟨xs⟩] w fun v w' => ∃ vs f, v = .tuple #[.agg ⟨vs⟩, .bool (feeT l dy).1] ∧ Owns w' w.heap.size vs (feeT l dy).2 f ∧ f.Nodup ∧ ((feeT l dy).2).map D0.code = [.bool, .ints, .ints] ∧ tcnts (feeT l dy).2 ≤ 1000000000 ∧ Ext w w' := by
  obtain ⟨b0, q, m, d, z, rfl, rfl, hz⟩ := open_Signed g gc
  obtain ⟨f1, f2⟩ := feeT_facts l [.bool b0, .ints z]
  cases hok : (stepsOk l && intOk [.bool b0, .ints z] && decide (z.length ≤ 4)) with
  | false =>
    refine (impl_FeeExact_no h hc g hok).mono ?_
    rintro v w' ⟨vs, f, hv, ho, hn, hx⟩
    have he : feeT l [.bool b0, .ints z] = (false, rat0) := by simp only [feeT, hok, Bool.false_eq_true, if_false]
    rw [he] at f1 f2 ⊢
    exact ⟨vs, f, hv, ho, hn, f1, f2, hx⟩
  | true =>
    have hok' := hok
    simp only [Bool.and_eq_true, decide_eq_true_eq] at hok'
    refine (impl_FeeExact_yes h hc g hok'.1.1 hok'.1.2 hok'.2).mono ?_
    rintro v w' ⟨vs, f, hv, ho, hn, hx⟩
    have he : feeT l [.bool b0, .ints z] = (true, redR ((feeSum l (val z) (List.range (lastLe l (val z) l.length + 1).toNat) : Nat) : Int) (10 ^ 30)) := by simp only [feeT, hok, if_true]
    rw [he] at f1 f2 ⊢
    exact ⟨vs, f, hv, ho, hn, f1, f2, hx⟩
theorem spec_FeeExact_c {w : World} {p : Option Addr} {n c : Nat} {l : List (List D0)} {xs : List Value} {dy : List D0} (h : RowsR w 4 p n c l) (hc : ∀ x ∈ l, x.map D0.code = [.int, .bool, .ints, .int]) (g : Reps w xs dy) (gc : dy.map D0.code = [.bool, .ints]) :
    Ret P n_spec_FeeExact [.slice p n c, .agg ⟨xs⟩] w fun v w' => ∃ vs f, v = .tuple #[.agg ⟨vs⟩, .bool (feeT l dy).1] ∧ Owns w' w.heap.size vs (feeT l dy).2 f ∧ f.Nodup ∧ ((feeT l dy).2).map D0.code = [.bool, .ints, .ints] ∧ tcnts (feeT l dy).2 ≤ 1000000000 ∧ Ext w w' := by
  obtain ⟨b0, q, m, d, z, rfl, rfl, hz⟩ := open_Signed g gc
  obtain ⟨f1, f2⟩ := feeT_facts l [.bool b0, .ints z]
  cases hok : (stepsOk l && intOk [.bool b0, .ints z] && decide (z.length ≤ 4)) with
  | false =>
    refine (spec_FeeExact_no h hc g hok).mono ?_
    rintro v w' ⟨vs, f, hv, ho, hn, hx⟩
    have he : feeT l [.bool b0, .ints z] = (false, rat0) := by simp only [feeT, hok, Bool.false_eq_true, if_false]
    rw [he] at f1 f2 ⊢
    exact ⟨vs, f, hv, ho, hn, f1, f2, hx⟩
  | true =>
    have hok' := hok
    simp only [Bool.and_eq_true, decide_eq_true_eq] at hok'
    refine (spec_FeeExact_yes h hc g hok'.1.1 hok'.1.2 hok'.2).mono ?_
    rintro v w' ⟨vs, f, hv, ho, hn, hx⟩
    have he : feeT l [.bool b0, .ints z] = (true, redR ((feeSum l (val z) (List.range (lastLe l (val z) l.length + 1).toNat) : Nat) : Int) (10 ^ 30)) := by simp only [feeT, hok, if_true]
    rw [he] at f1 f2 ⊢
    exact ⟨vs, f, hv, ho, hn, f1, f2, hx⟩
end Go.Proofs.YtmajiilehdpdmaaGreatDoor

namespace Go.Proofs.YtmajiilehdpdmaaGreatDoor
open Go Go.Proofs.YtmajiilehdpdmaaGreatDoor.Sx
set_option linter.unusedVariables false
set_option linter.unusedSimpArgs false
theorem lastLe_lt (l : List (List D0)) (v : Int) : ∀ j, lastLe l v j < (j : Int)
  | 0 => by simp [lastLe]
  | j + 1 => by
    have := lastLe_lt l v j
    unfold lastLe
    split <;> omega
def feeMT (l : List (List D0)) : List D0 → Int → Bool × List D0 × List D0
  | [.str c, .bool b, .ints z], mode =>
    if moneyOk [.str c, .bool b, .ints z] && (feeT l [.bool b, .ints z]).1 then
      (rmOk c (ratNum (feeT l [.bool b, .ints z]).2) (ratDen (feeT l [.bool b, .ints z]).2) mode, rmMoney c (ratNum (feeT l [.bool b, .ints z]).2) (ratDen (feeT l [.bool b, .ints z]).2) mode, rmRest c (ratNum (feeT l [.bool b, .ints z]).2) (ratDen (feeT l [.bool b, .ints z]).2) mode)
    else (false, zeroMoney, rat0)
  | _, _ => (false, zeroMoney, rat0)
theorem feeMT_facts (l : List (List D0)) (dx : List D0) (m : Int) : ((feeMT l dx m).2.1).map D0.code = [.str, .bool, .ints] ∧ tcnts (feeMT l dx m).2.1 ≤ 1000000000 ∧ ((feeMT l dx m).2.2).map D0.code = [.bool, .ints, .ints] ∧ tcnts (feeMT l dx m).2.2 ≤ 1000000000 := by
  unfold feeMT
  split
  · split
    · exact ⟨rmMoney_code _ _ _ _, rmMoney_cnt _ _ _ _, rmRest_code _ _ _ _, rmRest_cnt _ _ _ _⟩
    · exact ⟨rfl, by decide, rfl, by decide⟩
  · exact ⟨rfl, by decide, rfl, by decide⟩
theorem fee_facts {l : List (List D0)} (hc : ∀ x ∈ l, x.map D0.code = [.int, .bool, .ints, .int]) {b : Bool} {z : List Int} (h : (feeT l [.bool b, .ints z]).1 = true) :
    ∃ N D, (feeT l [.bool b, .ints z]).2 = rmk N D ∧ ratOk (rmk N D) = true ∧ (digs N.natAbs).length ≤ 10 ∧ (digs D).length ≤ 6 ∧ ratNum (feeT l [.bool b, .ints z]).2 = N ∧ ratDen (feeT l [.bool b, .ints z]).2 = D := by
  cases hok : (stepsOk l && intOk [.bool b, .ints z] && decide (z.length ≤ 4)) with
  | false => simp [feeT, hok] at h
  | true =>
    simp only [feeT, hok, if_true]
    simp only [Bool.and_eq_true, decide_eq_true_eq] at hok
    obtain ⟨⟨hs, hi⟩, hz4⟩ := hok
    have hcan : Canon z := by
      obtain ⟨_, b', z', he, hcan, _⟩ := intOk_enc hi
      simp only [List.cons.injEq, D0.bool.injEq, D0.ints.injEq, and_true] at he
      obtain ⟨_, rfl⟩ := he
      exact hcan
    have hvb : val z < 1000000000000000000000000000000000000 := by
      have h1 := val_lt hcan.1
      have h2 : z.length = 0 ∨ z.length = 1 ∨ z.length = 2 ∨ z.length = 3 ∨ z.length = 4 := by omega
      rcases h2 with e | e | e | e | e <;> rw [e] at h1 <;> simp at h1 <;> omega
    simp only [stepsOk, Bool.and_eq_true, decide_eq_true_eq, List.all_eq_true, List.mem_range] at hs
    obtain ⟨⟨⟨hn1, hn8⟩, hz0⟩, hall⟩ := hs
    have hl := lastLe_lt l (val z) l.length
    have h1 := feeSum_bound hall hc hvb (List.range (lastLe l (val z) l.length + 1).toNat) (fun x hx => by have := List.mem_range.1 hx; omega)
    have h2 : feeSum l (val z) (List.range (lastLe l (val z) l.length + 1).toNat) ≤ 9 * (1000000000000000000000000000000000000 * 1000000000 * 1000000000000000000000000000000) := Nat.le_trans h1 (Nat.mul_le_mul_right _ (by rw [List.length_range]; omega))
    generalize feeSum l (val z) (List.range (lastLe l (val z) l.length + 1).toNat) = V at h2 ⊢
    obtain ⟨k1, k2, k3⟩ := fee_ok h2
    have k4 : (digs V).length ≤ 9 := by
      have h9 : (1000000000 : Nat) ^ 9 = 1000000000000000000000000000000000000000000000000000000000000000000000000000000000 := by decide
      exact digs_len 9 (by omega)
    have k5 : (digs (redN (V : Int) (10 ^ 30)).natAbs).length ≤ 9 := Nat.le_trans redN_len (by rw [Int.natAbs_natCast]; exact k4)
    have k6 : (digs (redD (V : Int) (10 ^ 30))).length ≤ 4 := Nat.le_trans redD_len (ten_len (by decide))
    refine ⟨redN (V : Int) (10 ^ 30), redD (V : Int) (10 ^ 30), k2, k3, by omega, by omega, ?_, ?_⟩
    · show ratNum (redR (V : Int) (10 ^ 30)) = _
      rw [k2, ratNum_rmk]
    · show ratDen (redR (V : Int) (10 ^ 30)) = _
      rw [k2, ratDen_rmk]
theorem impl_Fee_o {w : World} {p : Option Addr} {n c : Nat} {l : List (List D0)} {xs : List Value} {dx : List D0} (h : RowsR w 4 p n c l) (hc : ∀ x ∈ l, x.map D0.code = [.int, .bool, .ints, .int]) (g : Reps w xs dx) (gc : dx.map D0.code = [.str, .bool, .ints]) (mode : Int) (ht : Tab w) :
    Ret P n_impl_Fee [.slice p n c, .agg ⟨xs⟩, .int .i64 mode] w fun v w' => ∃ vs0 f0 vs1 f1, v = .tuple #[.agg ⟨vs0⟩, .agg ⟨vs1⟩, .bool (feeMT l dx mode).1] ∧ Owns w' w.heap.size vs0 (feeMT l dx mode).2.1 f0 ∧ f0.Nodup ∧ Owns w' w.heap.size vs1 (feeMT l dx mode).2.2 f1 ∧ f1.Nodup ∧ (∀ k ∈ f0, k ∉ f1) ∧ Ext w w' := by
  have gr := g
  obtain ⟨cur, a0, ap, an, ac, az, rfl, rfl, ha⟩ := open_Money g gc
  refine impl_Fee_ret ?_
  unfold impl_Fee
  intro r w1 hn1 r1 w2 hn2 r2 w3 hn3
  have e1 := hn1.r_eq; have e2 := hn2.r_eq; have e3 := hn3.r_eq; have z1 := hn1.size; have z2 := hn2.size; have z3 := hn3.size
  have X := (hn1.ext.trans hn2.ext).trans hn3.ext
  have b0 := (hn1.blk.ext hn2.ext).ext hn3.ext; have b1 := hn2.blk.ext hn3.ext; have b2 := hn3.blk
  have unit : ∀ W, Ext w W → Reps W [.bool a0, .slice ap an ac] [.bool a0, .ints az] := fun W hW => (gr.ext hW).2
  have zero : ∀ W, Ext w3 W → (moneyOk [.str cur, .bool a0, .ints az] && (feeT l [.bool a0, .ints az]).1) = false → ∃ W1, Stores P T_impl_Money ⟨r1, 0, none⟩ (.agg ⟨[.string ByteArray.empty, .bool false, .slice none 0 0]⟩) W W1 ∧ ∃ W2, Stores P T_impl_Rat ⟨r2, 0, none⟩ (.agg ⟨[.bool false, .slice none 0 0, .slice none 0 0]⟩) W1 W2 ∧ Loads P T_impl_Money ⟨r1, 0, none⟩ (.agg ⟨[.string ByteArray.empty, .bool false, .slice none 0 0]⟩) W2 ∧ Loads P T_impl_Rat ⟨r2, 0, none⟩ (.agg ⟨[.bool false, .slice none 0 0, .slice none 0 0]⟩) W2 ∧ Owns W2 w.heap.size [.string ByteArray.empty, .bool false, .slice none 0 0] zeroMoney [] ∧ Owns W2 w.heap.size [.bool false, .slice none 0 0, .slice none 0 0] rat0 [] ∧ Ext w W2 ∧ feeMT l [.str cur, .bool a0, .ints az] mode = (false, zeroMoney, rat0) := by
    intro W hW hno
    obtain ⟨W1, W2, a1, _, a2, a3, a4, a5, a6, a7⟩ := two_end (t1 := T_impl_Money) (t2 := T_impl_Rat) (b1.ext hW) (b2.ext hW) (X.trans hW) (own_money0 W (r2 + 1)) (own_rat0 W (r2 + 1)) (by kernel_rfl) rfl (by kernel_rfl) rfl (by omega) (by omega) (by omega) (by omega) (by omega) (by omega)
    exact ⟨W1, a1, W2, a2, a3, a4, a5, a6, a7, by simp only [feeMT, hno, Bool.false_eq_true, if_false]⟩
  refine ⟨_, _, _, _, _, b0.loadA0 (by kernel_rfl), ?_⟩
  refine Ret.at (impl_MoneyOk_c (ht.ext X) (gr.ext X) rfl) ?_
  rintro v w5 ⟨hv, y5⟩
  subst hv
  refine ⟨_, rfl, ifN (fun hno => ?_) (fun hm => ⟨_, _, _, _, (b0.ext y5).loadAAt 1 [.bool a0, .slice ap an ac] rfl (by kernel_rfl) rfl, ?_⟩)⟩
  · obtain ⟨W1, a1, W2, a2, a3, a4, a5, a6, a7, a8⟩ := zero _ y5 (by rw [hno]; rfl)
    rw [a8]
    exact ⟨W1, a1, W2, a2, _, _, _, _, _, a3, _, _, _, _, _, _, _, a4, _, [], _, [], rfl, a5, List.nodup_nil, a6, List.nodup_nil, fun k hk => by simp at hk, a7⟩
  refine Ret.at (impl_FeeExact_c (h.ext (X.trans y5)) hc (unit _ (X.trans y5)) rfl) ?_
  rintro v w6 ⟨vs6, f6, hv, ho6, _, hcd, _, y6⟩
  subst hv
  obtain ⟨g0, gp, gn, gc', gz, gp2, gn2, gc2, gz2, rfl, _, _, _⟩ := open_Rat ho6.reps hcd
  have Y6 := y5.trans y6
  refine ⟨_, _, _, _, _, _, _, _, rfl, ?_⟩
  intro r3 w7 hn7
  have e7 := hn7.r_eq; have z7 := hn7.size
  obtain ⟨w8, st8, bk8, y8⟩ := hn7.fill (P := P) (t := T_impl_Rat) ho6.reps.cells1 (by kernel_rfl) rfl
  have YY := Y6.trans y8
  refine ⟨w8, st8, ifN (fun hno => ?_) (fun hf => ?_)⟩
  · obtain ⟨W1, a1, W2, a2, a3, a4, a5, a6, a7, a8⟩ := zero _ YY (by rw [hno, Bool.and_false])
    rw [a8]
    exact ⟨W1, a1, W2, a2, _, _, _, _, _, a3, _, _, _, _, _, _, _, a4, _, [], _, [], rfl, a5, List.nodup_nil, a6, List.nodup_nil, fun k hk => by simp at hk, a7⟩
  obtain ⟨N, D, hR, hok, hNl, hDl, hNe, hDe⟩ := fee_facts hc hf
  have hN : ∀ W, Ext w3 W → feeMT l [.str cur, .bool a0, .ints az] mode = (rmOk cur N D mode, rmMoney cur N D mode, rmRest cur N D mode) := fun _ _ => by
    simp only [feeMT, hm, hf, Bool.and_self, if_true, hNe, hDe]
  rw [hN _ (Ext.refl _)]
  rw [hR] at ho6
  refine ⟨_, (b0.ext YY).loadAt 0 rfl (by kernel_rfl) rfl, _, _, _, _, _, _, _, bk8.loadA0 (by kernel_rfl), ?_⟩
  refine Ret.at (impl_RatMoney_n (m := mode) cur (ho6.reps.ext y8) hok hNl hDl (ht.ext (X.trans YY))) ?_
  rintro v w16 ⟨vs16, f16, vsr, fr, hv, ho16, nd16, hor, ndr, dis, y16⟩
  subst hv
  obtain ⟨m0, m1, mp, mn, mc, mz, rfl, _, _⟩ := open_Money ho16.reps (rmMoney_code _ _ _ _)
  obtain ⟨v0, vp, vn, vc, vz, vp2, vn2, vc2, vz2, rfl, _, _, _⟩ := open_Rat hor.reps (rmRest_code _ _ _ _)
  have Y16 := YY.trans y16
  have lYY := YY.le
  obtain ⟨W1, W2, a1, _, a2, a3, a4, a5, a6, a7⟩ := two_end (t1 := T_impl_Money) (t2 := T_impl_Rat) (b1.ext Y16) (b2.ext Y16) (X.trans Y16) ho16 hor (by kernel_rfl) rfl (by kernel_rfl) rfl (by omega) (by omega) (by omega) (by omega) (by omega) (by omega)
  exact ⟨_, _, _, _, _, _, _, _, _, _, _, _, _, rfl, W1, a1, W2, a2, _, _, _, _, _, a3, _, _, _, _, _, _, _, a4, _, f16, _, fr, rfl, a5, nd16, a6, ndr, dis, a7⟩
theorem spec_Fee_o {w : World} {p : Option Addr} {n c : Nat} {l : List (List D0)} {xs : List Value} {dx : List D0} (h : RowsR w 4 p n c l) (hc : ∀ x ∈ l, x.map D0.code = [.int, .bool, .ints, .int]) (g : Reps w xs dx) (gc : dx.map D0.code = [.str, .bool, .ints]) (mode : Int) :
    Ret P n_spec_Fee [.slice p n c, .agg ⟨xs⟩, .int .i64 mode] w fun v w' => ∃ vs0 f0 vs1 f1, v = .tuple #[.agg ⟨vs0⟩, .agg ⟨vs1⟩, .bool (feeMT l dx mode).1] ∧ Owns w' w.heap.size vs0 (feeMT l dx mode).2.1 f0 ∧ f0.Nodup ∧ Owns w' w.heap.size vs1 (feeMT l dx mode).2.2 f1 ∧ f1.Nodup ∧ (∀ k ∈ f0, k ∉ f1) ∧ Ext w w' := by
  have gr := g
  obtain ⟨cur, a0, ap, an, ac, az, rfl, rfl, ha⟩ := open_Money g gc
  refine spec_Fee_ret ?_
  unfold spec_Fee
  intro r w1 hn1 r1 w2 hn2 r2 w3 hn3
  have e1 := hn1.r_eq; have e2 := hn2.r_eq; have e3 := hn3.r_eq; have z1 := hn1.size; have z2 := hn2.size; have z3 := hn3.size
  have X := (hn1.ext.trans hn2.ext).trans hn3.ext
  have b0 := (hn1.blk.ext hn2.ext).ext hn3.ext; have b1 := hn2.blk.ext hn3.ext; have b2 := hn3.blk
  have unit : ∀ W, Ext w W → Reps W [.bool a0, .slice ap an ac] [.bool a0, .ints az] := fun W hW => (gr.ext hW).2
  have zero : ∀ W, Ext w3 W → (moneyOk [.str cur, .bool a0, .ints az] && (feeT l [.bool a0, .ints az]).1) = false → ∃ W1, Stores P T_impl_Money ⟨r1, 0, none⟩ (.agg ⟨[.string ByteArray.empty, .bool false, .slice none 0 0]⟩) W W1 ∧ ∃ W2, Stores P T_impl_Rat ⟨r2, 0, none⟩ (.agg ⟨[.bool false, .slice none 0 0, .slice none 0 0]⟩) W1 W2 ∧ Loads P T_impl_Money ⟨r1, 0, none⟩ (.agg ⟨[.string ByteArray.empty, .bool false, .slice none 0 0]⟩) W2 ∧ Loads P T_impl_Rat ⟨r2, 0, none⟩ (.agg ⟨[.bool false, .slice none 0 0, .slice none 0 0]⟩) W2 ∧ Owns W2 w.heap.size [.string ByteArray.empty, .bool false, .slice none 0 0] zeroMoney [] ∧ Owns W2 w.heap.size [.bool false, .slice none 0 0, .slice none 0 0] rat0 [] ∧ Ext w W2 ∧ feeMT l [.str cur, .bool a0, .ints az] mode = (false, zeroMoney, rat0) := by
    intro W hW hno
    obtain ⟨W1, W2, a1, _, a2, a3, a4, a5, a6, a7⟩ := two_end (t1 := T_impl_Money) (t2 := T_impl_Rat) (b1.ext hW) (b2.ext hW) (X.trans hW) (own_money0 W (r2 + 1)) (own_rat0 W (r2 + 1)) (by kernel_rfl) rfl (by kernel_rfl) rfl (by omega) (by omega) (by omega) (by omega) (by omega) (by omega)
    exact ⟨W1, a1, W2, a2, a3, a4, a5, a6, a7, by simp only [feeMT, hno, Bool.false_eq_true, if_false]⟩
  refine ⟨_, _, _, _, b0.loadAAt 1 [.bool a0, .slice ap an ac] rfl (by kernel_rfl) rfl, ?_⟩
  refine Ret.at (spec_FeeExact_c (h.ext X) hc (unit _ X) rfl) ?_
  rintro v w6 ⟨vs6, f6, hv, ho6, _, hcd, _, y6⟩
  subst hv
  obtain ⟨g0, gp, gn, gc', gz, gp2, gn2, gc2, gz2, rfl, _, _, _⟩ := open_Rat ho6.reps hcd
  refine ⟨_, _, _, _, _, _, _, _, rfl, ?_⟩
  intro r3 w7 hn7
  have e7 := hn7.r_eq; have z7 := hn7.size
  obtain ⟨w8, st8, bk8, y8⟩ := hn7.fill (P := P) (t := T_impl_Rat) ho6.reps.cells1 (by kernel_rfl) rfl
  have Y8 := y6.trans y8
  refine ⟨w8, st8, ifN (fun hno => ifT ?_) (fun hf => ⟨_, _, _, _, _, (b0.ext Y8).loadA0 (by kernel_rfl), ?_⟩)⟩
  · obtain ⟨W1, a1, W2, a2, a3, a4, a5, a6, a7, a8⟩ := zero _ Y8 (by rw [hno, Bool.and_false])
    rw [a8]
    exact ⟨W1, a1, W2, a2, _, _, _, _, _, a3, _, _, _, _, _, _, _, a4, _, [], _, [], rfl, a5, List.nodup_nil, a6, List.nodup_nil, fun k hk => by simp at hk, a7⟩
  refine Ret.at (spec_MoneyOk_c (gr.ext (X.trans Y8)) rfl) ?_
  rintro v w9 ⟨hv, y9⟩
  subst hv
  have YY := Y8.trans y9
  refine ⟨_, rfl, ifN (fun hno => ?_) (fun hm => ?_)⟩
  · obtain ⟨W1, a1, W2, a2, a3, a4, a5, a6, a7, a8⟩ := zero _ YY (by rw [hno]; rfl)
    rw [a8]
    exact ⟨W1, a1, W2, a2, _, _, _, _, _, a3, _, _, _, _, _, _, _, a4, _, [], _, [], rfl, a5, List.nodup_nil, a6, List.nodup_nil, fun k hk => by simp at hk, a7⟩
  obtain ⟨N, D, hR, hok, hNl, hDl, hNe, hDe⟩ := fee_facts hc hf
  have hN : ∀ W, Ext w3 W → feeMT l [.str cur, .bool a0, .ints az] mode = (rmOk cur N D mode, rmMoney cur N D mode, rmRest cur N D mode) := fun _ _ => by
    simp only [feeMT, hm, hf, Bool.and_self, if_true, hNe, hDe]
  rw [hN _ (Ext.refl _)]
  rw [hR] at ho6
  refine ⟨_, (b0.ext YY).loadAt 0 rfl (by kernel_rfl) rfl, _, _, _, _, _, _, _, (bk8.ext y9).loadA0 (by kernel_rfl), ?_⟩
  refine Ret.at (spec_RatMoney_n (m := mode) cur ((ho6.reps.ext y8).ext y9) hok hNl hDl) ?_
  rintro v w16 ⟨vs16, f16, vsr, fr, hv, ho16, nd16, hor, ndr, dis, y16⟩
  subst hv
  obtain ⟨m0, m1, mp, mn, mc, mz, rfl, _, _⟩ := open_Money ho16.reps (rmMoney_code _ _ _ _)
  obtain ⟨v0, vp, vn, vc, vz, vp2, vn2, vc2, vz2, rfl, _, _, _⟩ := open_Rat hor.reps (rmRest_code _ _ _ _)
  have Y16 := YY.trans y16
  have lYY := YY.le
  obtain ⟨W1, W2, a1, _, a2, a3, a4, a5, a6, a7⟩ := two_end (t1 := T_impl_Money) (t2 := T_impl_Rat) (b1.ext Y16) (b2.ext Y16) (X.trans Y16) ho16 hor (by kernel_rfl) rfl (by kernel_rfl) rfl (by omega) (by omega) (by omega) (by omega) (by omega) (by omega)
  exact ⟨_, _, _, _, _, _, _, _, _, _, _, _, _, rfl, W1, a1, W2, a2, _, _, _, _, _, a3, _, _, _, _, _, _, _, a4, _, f16, _, fr, rfl, a5, nd16, a6, ndr, dis, a7⟩
end Go.Proofs.YtmajiilehdpdmaaGreatDoor

namespace Go.Proofs.YtmajiilehdpdmaaGreatDoor
open Go Go.Proofs.YtmajiilehdpdmaaGreatDoor.Sx
set_option linter.unusedVariables false
set_option linter.unusedSimpArgs false
def afterT (l : List (List D0)) : List D0 → Int → Bool × List D0
  | [.str c, .bool b, .ints z], mode =>
    if (feeMT l [.str c, .bool b, .ints z] mode).1 && !b then
      mres (alk [.str c, .bool b, .ints z] (feeMT l [.str c, .bool b, .ints z] mode).2.1) c (ival [.bool b, .ints z] - ival ((feeMT l [.str c, .bool b, .ints z] mode).2.1.drop 1))
    else (false, zeroMoney)
  | _, _ => (false, zeroMoney)
theorem mres_cnt (al : Bool) (c : ByteArray) (z : Int) : tcnts (mres al c z).2 ≤ 1000000000 := by
  unfold mres moneyMk
  split
  · split
    · rename_i h
      show tcnts (.str c :: enc z) ≤ 1000000000
      have := enc_cnt h
      omega
    · show tcnts zeroMoney ≤ 1000000000
      decide
  · show tcnts zeroMoney ≤ 1000000000
    decide
theorem afterT_facts (l : List (List D0)) (dx : List D0) (m : Int) : ((afterT l dx m).2).map D0.code = [.str, .bool, .ints] ∧ tcnts (afterT l dx m).2 ≤ 1000000000 := by
  unfold afterT
  split
  · split
    · exact ⟨mres_code _ _ _, mres_cnt _ _ _⟩
    · exact ⟨rfl, by decide⟩
  · exact ⟨rfl, by decide⟩
theorem impl_AfterFee_c {w : World} {p : Option Addr} {n c : Nat} {l : List (List D0)} {xs : List Value} {dx : List D0} (h : RowsR w 4 p n c l) (hc : ∀ x ∈ l, x.map D0.code = [.int, .bool, .ints, .int]) (g : Reps w xs dx) (gc : dx.map D0.code = [.str, .bool, .ints]) (mode : Int) (ht : Tab w) :
    Ret P n_impl_AfterFee [.slice p n c, .agg ⟨xs⟩, .int .i64 mode] w fun v w' => ∃ vs f, v = .tuple #[.agg ⟨vs⟩, .bool (afterT l dx mode).1] ∧ Owns w' w.heap.size vs (afterT l dx mode).2 f ∧ f.Nodup ∧ ((afterT l dx mode).2).map D0.code = [.str, .bool, .ints] ∧ tcnts (afterT l dx mode).2 ≤ 1000000000 ∧ Ext w w' := by
  obtain ⟨k1, k2⟩ := afterT_facts l dx mode
  have gr := g
  obtain ⟨cur, a0, ap, an, ac, az, rfl, rfl, ha⟩ := open_Money g gc
  refine impl_AfterFee_ret ?_
  unfold impl_AfterFee
  intro r w1 hn1 r1 w2 hn2
  have e1 := hn1.r_eq; have e2 := hn2.r_eq; have z1 := hn1.size; have z2 := hn2.size
  have X := hn1.ext.trans hn2.ext
  have b0 := hn1.blk.ext hn2.ext; have b1 := hn2.blk
  refine ⟨_, _, _, _, _, b0.loadA0 (by kernel_rfl), ?_⟩
  refine Ret.at (impl_Fee_o (h.ext X) hc (gr.ext X) rfl mode (ht.ext X)) ?_
  rintro v w3 ⟨vs0, f0, vs1, f1, hv, o0, nd0, o1, nd1, dis, y3⟩
  subst hv
  obtain ⟨fc1, fc2, fc3, fc4⟩ := feeMT_facts l [.str cur, .bool a0, .ints az] mode
  have o0r := o0.reps
  obtain ⟨c2, b2, bp, bn, bc, bz, rfl, hfe, _⟩ := open_Money o0r fc1
  obtain ⟨u0, up, un, uc, uz, up2, un2, uc2, uz2, rfl, _, _, _⟩ := open_Rat o1.reps fc3
  refine ⟨_, _, _, _, _, _, _, _, _, _, _, _, _, rfl, ?_⟩
  intro r2 w4 hn4 r3 w5 hn5
  have e4 := hn4.r_eq; have e5 := hn5.r_eq; have z4 := hn4.size; have z5 := hn5.size
  have l3 := y3.le
  have Y5 := (y3.trans hn4.ext).trans hn5.ext
  obtain ⟨w6, st6, q2, ch6, z6⟩ := ((hn4.blk).ext hn5.ext).storeA0 (P := P) (t := T_impl_Money) (xs := [.string c2, .bool b2, .slice bp bn bc]) (by kernel_rfl) rfl o0r.cells1
  obtain ⟨w7, st7, q3, ch7, z7⟩ := (hn5.blk.chg ch6 (by simp; omega)).storeA0 (P := P) (t := T_impl_Rat) (xs := [.bool u0, .slice up un uc, .slice up2 un2 uc2]) (by kernel_rfl) rfl o1.reps.cells1
  have Y7 : Ext w2 w7 := (Y5.chg ch6 (by simp; omega)).chg ch7 (by simp; omega)
  have o7 := ((o0.ext (hn4.ext.trans hn5.ext)).chg ch6 (fun k hk hm => by have := (o0.lt k hk).2; simp at hm; omega)).chg ch7 (fun k hk hm => by have := (o0.lt k hk).2; simp at hm; omega)
  have q2' := q2.chg ch7 (by simp; omega)
  have l7 := Y7.le
  have zero : ∀ W, Ext w2 W → ((feeMT l [.str cur, .bool a0, .ints az] mode).1 && !a0) = false → ∃ W', Stores P T_impl_Money ⟨r1, 0, none⟩ (.agg ⟨[.string ByteArray.empty, .bool false, .slice none 0 0]⟩) W W' ∧ ∃ (s0 : ByteArray) (sb : Bool) (sp : Option Addr) (sn sc : Nat), Loads P T_impl_Money ⟨r1, 0, none⟩ (.agg #[.string s0, .bool sb, .slice sp sn sc]) W' ∧ (fun (v : Value) (w' : World) => ∃ vs f, v = .tuple #[.agg ⟨vs⟩, .bool (afterT l [.str cur, .bool a0, .ints az] mode).1] ∧ Owns w' w.heap.size vs (afterT l [.str cur, .bool a0, .ints az] mode).2 f ∧ f.Nodup ∧ ((afterT l [.str cur, .bool a0, .ints az] mode).2).map D0.code = [.str, .bool, .ints] ∧ tcnts (afterT l [.str cur, .bool a0, .ints az] mode).2 ≤ 1000000000 ∧ Ext w w') (.tuple #[.agg #[.string s0, .bool sb, .slice sp sn sc], .bool false]) W' := by
    intro W hW hno
    have lW := hW.le
    obtain ⟨W', st', ld', ow', xx', _, _⟩ := agg_end (t := T_impl_Money) (b1.ext hW) (X.trans hW) (by omega) (own_money0 W (r1 + 1)) (by kernel_rfl) rfl (by omega) (by omega)
    have he : afterT l [.str cur, .bool a0, .ints az] mode = (false, zeroMoney) := by simp only [afterT, hno, Bool.false_eq_true, if_false]
    rw [he] at k1 k2 ⊢
    exact ⟨W', st', _, _, _, _, _, ld', _, [], rfl, ow', List.nodup_nil, k1, k2, xx'⟩
  refine ⟨w6, st6, w7, st7, ifN (fun hno => ifT (zero _ Y7 (by rw [hno]; rfl))) (fun hf => ⟨_, (b0.ext Y7).loadAt 1 rfl (by kernel_rfl) rfl, ifB (fun hneg => zero _ Y7 (by rw [hneg, Bool.not_true, Bool.and_false])) (fun hpos => ?_)⟩)⟩
  have he : afterT l [.str cur, .bool a0, .ints az] mode = mres (alk [.str cur, .bool a0, .ints az] [.str c2, .bool b2, .ints bz]) cur (ival [.bool a0, .ints az] - ival [.bool b2, .ints bz]) := by
    simp only [afterT]
    rw [if_pos (by rw [hf, hpos]; rfl), hfe]
    rfl
  refine ⟨_, _, _, _, _, (b0.ext Y7).loadA0 (by kernel_rfl), _, _, _, _, _, q2'.loadA0 (by kernel_rfl), ?_⟩
  have o7r := o7.reps
  rw [hfe] at o7r
  refine Ret.at (impl_MoneySub_n (gr.ext (X.trans Y7)) o7r (ht.ext (X.trans Y7))) ?_
  rintro v w8 ⟨vs8, f8, hv, ho8, nd8, y8⟩
  subst hv
  rw [← he] at ho8 ⊢
  obtain ⟨m0, m1, mp, mn, mc, mz, rfl, _, _⟩ := open_Money ho8.reps k1
  obtain ⟨W', st', ld', ow', xx', _, _⟩ := agg_end (t := T_impl_Money) (b1.ext (Y7.trans y8)) (X.trans (Y7.trans y8)) (by omega) ho8 (by kernel_rfl) rfl (by omega) (by omega)
  exact ⟨_, _, _, _, _, _, rfl, W', st', _, _, _, _, _, ld', _, f8, rfl, ow', nd8, k1, k2, xx'⟩
theorem spec_AfterFee_c {w : World} {p : Option Addr} {n c : Nat} {l : List (List D0)} {xs : List Value} {dx : List D0} (h : RowsR w 4 p n c l) (hc : ∀ x ∈ l, x.map D0.code = [.int, .bool, .ints, .int]) (g : Reps w xs dx) (gc : dx.map D0.code = [.str, .bool, .ints]) (mode : Int) :
    Ret P n_spec_AfterFee [.slice p n c, .agg ⟨xs⟩, .int .i64 mode] w fun v w' => ∃ vs f, v = .tuple #[.agg ⟨vs⟩, .bool (afterT l dx mode).1] ∧ Owns w' w.heap.size vs (afterT l dx mode).2 f ∧ f.Nodup ∧ ((afterT l dx mode).2).map D0.code = [.str, .bool, .ints] ∧ tcnts (afterT l dx mode).2 ≤ 1000000000 ∧ Ext w w' := by
  obtain ⟨k1, k2⟩ := afterT_facts l dx mode
  have gr := g
  obtain ⟨cur, a0, ap, an, ac, az, rfl, rfl, ha⟩ := open_Money g gc
  refine spec_AfterFee_ret ?_
  unfold spec_AfterFee
  intro r w1 hn1 r1 w2 hn2
  have e1 := hn1.r_eq; have e2 := hn2.r_eq; have z1 := hn1.size; have z2 := hn2.size
  have X := hn1.ext.trans hn2.ext
  have b0 := hn1.blk.ext hn2.ext; have b1 := hn2.blk
  refine ⟨_, _, _, _, _, b0.loadA0 (by kernel_rfl), ?_⟩
  refine Ret.at (spec_Fee_o (h.ext X) hc (gr.ext X) rfl mode) ?_
  rintro v w3 ⟨vs0, f0, vs1, f1, hv, o0, nd0, o1, nd1, dis, y3⟩
  subst hv
  obtain ⟨fc1, fc2, fc3, fc4⟩ := feeMT_facts l [.str cur, .bool a0, .ints az] mode
  have o0r := o0.reps
  obtain ⟨c2, b2, bp, bn, bc, bz, rfl, hfe, _⟩ := open_Money o0r fc1
  obtain ⟨u0, up, un, uc, uz, up2, un2, uc2, uz2, rfl, _, _, _⟩ := open_Rat o1.reps fc3
  refine ⟨_, _, _, _, _, _, _, _, _, _, _, _, _, rfl, ?_⟩
  intro r2 w4 hn4 r3 w5 hn5
  have e4 := hn4.r_eq; have e5 := hn5.r_eq; have z4 := hn4.size; have z5 := hn5.size
  have l3 := y3.le
  have Y5 := (y3.trans hn4.ext).trans hn5.ext
  obtain ⟨w6, st6, q2, ch6, z6⟩ := ((hn4.blk).ext hn5.ext).storeA0 (P := P) (t := T_impl_Money) (xs := [.string c2, .bool b2, .slice bp bn bc]) (by kernel_rfl) rfl o0r.cells1
  obtain ⟨w7, st7, q3, ch7, z7⟩ := (hn5.blk.chg ch6 (by simp; omega)).storeA0 (P := P) (t := T_impl_Rat) (xs := [.bool u0, .slice up un uc, .slice up2 un2 uc2]) (by kernel_rfl) rfl o1.reps.cells1
  have Y7 : Ext w2 w7 := (Y5.chg ch6 (by simp; omega)).chg ch7 (by simp; omega)
  have o7 := ((o0.ext (hn4.ext.trans hn5.ext)).chg ch6 (fun k hk hm => by have := (o0.lt k hk).2; simp at hm; omega)).chg ch7 (fun k hk hm => by have := (o0.lt k hk).2; simp at hm; omega)
  have q2' := q2.chg ch7 (by simp; omega)
  have l7 := Y7.le
  have zero : ∀ W, Ext w2 W → ((feeMT l [.str cur, .bool a0, .ints az] mode).1 && !a0) = false → ∃ W', Stores P T_impl_Money ⟨r1, 0, none⟩ (.agg ⟨[.string ByteArray.empty, .bool false, .slice none 0 0]⟩) W W' ∧ ∃ (s0 : ByteArray) (sb : Bool) (sp : Option Addr) (sn sc : Nat), Loads P T_impl_Money ⟨r1, 0, none⟩ (.agg #[.string s0, .bool sb, .slice sp sn sc]) W' ∧ (fun (v : Value) (w' : World) => ∃ vs f, v = .tuple #[.agg ⟨vs⟩, .bool (afterT l [.str cur, .bool a0, .ints az] mode).1] ∧ Owns w' w.heap.size vs (afterT l [.str cur, .bool a0, .ints az] mode).2 f ∧ f.Nodup ∧ ((afterT l [.str cur, .bool a0, .ints az] mode).2).map D0.code = [.str, .bool, .ints] ∧ tcnts (afterT l [.str cur, .bool a0, .ints az] mode).2 ≤ 1000000000 ∧ Ext w w') (.tuple #[.agg #[.string s0, .bool sb, .slice sp sn sc], .bool false]) W' := by
    intro W hW hno
    have lW := hW.le
    obtain ⟨W', st', ld', ow', xx', _, _⟩ := agg_end (t := T_impl_Money) (b1.ext hW) (X.trans hW) (by omega) (own_money0 W (r1 + 1)) (by kernel_rfl) rfl (by omega) (by omega)
    have he : afterT l [.str cur, .bool a0, .ints az] mode = (false, zeroMoney) := by simp only [afterT, hno, Bool.false_eq_true, if_false]
    rw [he] at k1 k2 ⊢
    exact ⟨W', st', _, _, _, _, _, ld', _, [], rfl, ow', List.nodup_nil, k1, k2, xx'⟩
  refine ⟨w6, st6, w7, st7, ifN (fun hno => ifT (zero _ Y7 (by rw [hno]; rfl))) (fun hf => ⟨_, (b0.ext Y7).loadAt 1 rfl (by kernel_rfl) rfl, ifB (fun hneg => zero _ Y7 (by rw [hneg, Bool.not_true, Bool.and_false])) (fun hpos => ?_)⟩)⟩
  have he : afterT l [.str cur, .bool a0, .ints az] mode = mres (alk [.str cur, .bool a0, .ints az] [.str c2, .bool b2, .ints bz]) cur (ival [.bool a0, .ints az] - ival [.bool b2, .ints bz]) := by
    simp only [afterT]
    rw [if_pos (by rw [hf, hpos]; rfl), hfe]
    rfl
  refine ⟨_, _, _, _, _, (b0.ext Y7).loadA0 (by kernel_rfl), _, _, _, _, _, q2'.loadA0 (by kernel_rfl), ?_⟩
  have o7r := o7.reps
  rw [hfe] at o7r
  refine Ret.at (spec_MoneySub_n (gr.ext (X.trans Y7)) o7r) ?_
  rintro v w8 ⟨vs8, f8, hv, ho8, nd8, y8⟩
  subst hv
  rw [← he] at ho8 ⊢
  obtain ⟨m0, m1, mp, mn, mc, mz, rfl, _, _⟩ := open_Money ho8.reps k1
  obtain ⟨W', st', ld', ow', xx', _, _⟩ := agg_end (t := T_impl_Money) (b1.ext (Y7.trans y8)) (X.trans (Y7.trans y8)) (by omega) ho8 (by kernel_rfl) rfl (by omega) (by omega)
  exact ⟨_, _, _, _, _, _, rfl, W', st', _, _, _, _, _, ld', _, f8, rfl, ow', nd8, k1, k2, xx'⟩
end Go.Proofs.YtmajiilehdpdmaaGreatDoor

namespace Go.Proofs.YtmajiilehdpdmaaGreatDoor
open Go Go.Proofs.YtmajiilehdpdmaaGreatDoor.Sx
set_option linter.unusedVariables false
set_option linter.unusedSimpArgs false
set_option maxHeartbeats 4000000
theorem laws_FnExactAfterFee_c {w : World} {p0 : Option Addr} {n0 c0 : Nat} {l0 : List (List D0)} (h0 : RowsR w 4 p0 n0 c0 l0) (hc0 : ∀ x ∈ l0, x.map D0.code = [.int, .bool, .ints, .int]) (hk0 : ∀ x ∈ l0, ∀ d ∈ x, d.ok) {vs1 : List Value} {d1 : List D0} (h1 : Reps w vs1 d1) (hc1 : d1.map D0.code = [.str, .bool, .ints]) (hk1 : ∀ x ∈ d1, x.ok) (a2 : Int) (ht : Tab w) :
    Ret P n_laws_FnExactAfterFee [.slice p0 n0 c0, .agg ⟨vs1⟩, .int .i64 a2] w fun v w' => v = .bool true ∧ Ext w w' := by
  have hr1 := h1
  obtain ⟨u10, u11, u12p, u12n, u12c, u12z, rfl, rfl, u12h⟩ := open_Money h1 hc1
  refine laws_FnExactAfterFee_ret ?_
  unfold laws_FnExactAfterFee
  have x : Ext w w := Ext.refl w
  intro r_a1 W1 hn
  have er_a1 := hn.r_eq; have sr_a1 := hn.size
  have y := hn.ext
  replace x := x.trans y
  have ll1 := y.le
  have bk_a1 := hn.blk; clear hn
  refine Ret.at (laws_szStepS_c (h0.ext x) hc0 hk0 (by omega) (by omega)) ?_
  rintro v W2 ⟨k0, hv, hs0, hm0, y⟩
  subst hv
  replace x := x.trans y
  replace bk_a1 := bk_a1.ext y
  have ll2 := y.le
  refine ⟨_, rfl, ifD (fun _ => ⟨rfl, x⟩) (fun hp0 => ?_)⟩
  refine ⟨_, _, _, _, _, bk_a1.loadA0 (by kernel_rfl), ?_⟩
  refine Ret.at (laws_szMoney_c (hr1.ext x) rfl hk1 (by omega) (by omega)) ?_
  rintro v W3 ⟨k1, hv, hs1, hm1, y⟩
  subst hv
  replace x := x.trans y
  replace bk_a1 := bk_a1.ext y
  have ll3 := y.le
  refine ⟨_, rfl, ifD (fun _ => ⟨rfl, x⟩) (fun hp1 => ?_)⟩
  have hs0 := hs0 (by omega)
  have hs1 := hs1 (by omega)
  have hb0 : ∀ y ∈ l0, bulks y ≤ 1048576 := fun y hy => by have := bulks_le hy; omega
  have hz0 : n0 ≤ 1048576 := by omega
  have hsum0 : (l0.map bulks).sum ≤ 1048576 := by omega
  simp only [bulks, D0.bulk, List.map_cons, List.map_nil, List.sum_cons, List.sum_nil] at hs1
  have y := Ext.drew W3
  replace x := x.trans y
  replace bk_a1 := bk_a1.ext y
  have ll4 := y.le
  have bd1 := bk_a1
  intro ssx W4 F
  have S := FlS.first F rfl
  have y := F.ext
  replace x := x.trans y
  replace bk_a1 := bk_a1.ext y
  have ll5 := y.le
  refine Ret.at (laws_toStepS_c (h0.ext x) hc0 hz0 hb0) ?_
  rintro v W5 ⟨p_s0, c_s0, f_s0, hv, o_s0, y⟩
  subst hv
  have lt_o_s0 : ∀ k ∈ f_s0, W4.heap.size ≤ k ∧ k < W5.heap.size := o_s0.lt
  have yy := y
  replace x := x.trans y
  replace bk_a1 := bk_a1.ext y
  replace S := S.ext y
  have ll6 := y.le
  refine ⟨_, _, _, rfl, yy, ?_⟩
  refine ⟨_, _, _, _, _, fun W' hW => (bd1.ext hW).loadA0 (by kernel_rfl), ?_⟩
  intro ssx W6 F
  have S := S.step F
  have y := F.ext
  replace x := x.trans y
  replace bk_a1 := bk_a1.ext y
  replace o_s0 := o_s0.ext y
  have ll7 := y.le
  refine Ret.at (laws_toMoney_c (hr1.ext x) rfl (by simp only [bulks, D0.bulk, List.map_cons, List.map_nil, List.sum_cons, List.sum_nil]; omega)) ?_
  rintro v W7 ⟨vs, f_s1, hv, o_s1, nd_s1, y⟩
  subst hv
  obtain ⟨ts10, ts11, ts12p, ts12n, ts12c, ts12z, rfl, hds1, ts12h⟩ := open_Money o_s1.reps rfl
  have lt_o_s1 : ∀ k ∈ f_s1, W6.heap.size ≤ k ∧ k < W7.heap.size := o_s1.lt
  have yy := y
  replace x := x.trans y
  replace bk_a1 := bk_a1.ext y
  replace o_s0 := o_s0.ext y
  replace S := S.ext y
  have ll8 := y.le
  refine ⟨_, _, _, _, _, rfl, ?_⟩
  intro ssx W8 F
  have S := S.step F
  have y := F.ext
  replace x := x.trans y
  replace bk_a1 := bk_a1.ext y
  replace o_s0 := o_s0.ext y
  replace o_s1 := o_s1.ext y
  have ll9 := y.le
  have Sc := S
  refine Ret.at (spec_AfterFee_c o_s0.rows hc0 o_s1.reps rfl a2) ?_
  rintro v W9 ⟨vs_w0, f_w0, hv, o_w0, nd_w0, co_w0, ct_w0, y⟩
  subst hv
  have tn_w0 := tcnts_nn ct_w0
  have lt_o_w0 : ∀ k ∈ f_w0, W8.heap.size ≤ k ∧ k < W9.heap.size := o_w0.lt
  replace x := x.trans y
  replace bk_a1 := bk_a1.ext y
  replace S := S.ext y
  have ll10 := y.le
  obtain ⟨gw00, gw01, gw02p, gw02n, gw02c, gw02z, rfl, hd_w0, gw02h⟩ := open_Money o_w0.reps co_w0
  refine ⟨_, _, _, _, _, _, rfl, ?_⟩
  intro ssx W10 r_w0 F G_w0
  have S := S.step F
  have y := F.ext
  replace x := x.trans y
  replace bk_a1 := bk_a1.ext y
  replace o_w0 := o_w0.ext y
  have ll11 := y.le
  have FF := F
  obtain ⟨sr_w0, lr_w0, bk_w0⟩ := S.blk G_w0 rfl
  have ap_w0 := Sc.apart FF G_w0
  obtain ⟨W11, st, bq, ch, sz⟩ := bk_w0.storeA0 (P := P) (t := T_impl_Money) (xs := [.string gw00, .bool gw01, .slice gw02p gw02n gw02c]) (by kernel_rfl) rfl o_w0.reps.cells1
  replace x := x.chg ch (by simp; omega)
  replace bk_a1 := bk_a1.chg ch (by simp; omega)
  replace o_w0 := o_w0.chg ch (fun k hk hm => by have h1 := lt_o_w0 k hk; simp at hm; omega)
  have bk_w0 := bq; clear bq
  have ll12 := ch.size
  refine ⟨_, st, ?_⟩
  refine Ret.at (laws_toStepS_c (h0.ext x) hc0 hz0 hb0) ?_
  rintro v W12 ⟨p_x0, c_x0, f_x0, hv, o_x0, y⟩
  subst hv
  have lt_o_x0 : ∀ k ∈ f_x0, W11.heap.size ≤ k ∧ k < W12.heap.size := o_x0.lt
  replace x := x.trans y
  replace bk_a1 := bk_a1.ext y
  replace bk_w0 := bk_w0.ext y
  replace o_w0 := o_w0.ext y
  have ll13 := y.le
  refine ⟨_, _, _, rfl, ?_⟩
  refine ⟨_, _, _, _, _, bk_a1.loadA0 (by kernel_rfl), ?_⟩
  refine Ret.at (laws_toMoney_c (hr1.ext x) rfl (by simp only [bulks, D0.bulk, List.map_cons, List.map_nil, List.sum_cons, List.sum_nil]; omega)) ?_
  rintro v W13 ⟨vs, f_x1, hv, o_x1, nd_x1, y⟩
  subst hv
  obtain ⟨tx10, tx11, tx12p, tx12n, tx12c, tx12z, rfl, hdx1, tx12h⟩ := open_Money o_x1.reps rfl
  have lt_o_x1 : ∀ k ∈ f_x1, W12.heap.size ≤ k ∧ k < W13.heap.size := o_x1.lt
  replace x := x.trans y
  replace bk_a1 := bk_a1.ext y
  replace bk_w0 := bk_w0.ext y
  replace o_w0 := o_w0.ext y
  replace o_x0 := o_x0.ext y
  have ll14 := y.le
  refine ⟨_, _, _, _, _, rfl, ?_⟩
  intro r_x1 W14 hn
  have er_x1 := hn.r_eq; have sr_x1 := hn.size
  have y := hn.ext
  replace x := x.trans y
  replace bk_a1 := bk_a1.ext y
  replace bk_w0 := bk_w0.ext y
  replace o_w0 := o_w0.ext y
  replace o_x0 := o_x0.ext y
  replace o_x1 := o_x1.ext y
  have ll15 := y.le
  have bk_x1 := hn.blk; clear hn
  obtain ⟨W15, st, bq, ch, sz⟩ := bk_x1.storeA0 (P := P) (t := T_impl_Money) (xs := [.string tx10, .bool tx11, .slice tx12p tx12n tx12c]) (by kernel_rfl) rfl o_x1.reps.cells1
  replace x := x.chg ch (by simp; omega)
  replace bk_a1 := bk_a1.chg ch (by simp; omega)
  replace bk_w0 := bk_w0.chg ch (by simp; omega)
  replace o_w0 := o_w0.chg ch (fun k hk hm => by have h1 := lt_o_w0 k hk; simp at hm; omega)
  replace o_x0 := o_x0.chg ch (fun k hk hm => by have h1 := lt_o_x0 k hk; simp at hm; omega)
  replace o_x1 := o_x1.chg ch (fun k hk hm => by have h1 := lt_o_x1 k hk; simp at hm; omega)
  have bk_x1 := bq; clear bq
  have ll16 := ch.size
  refine ⟨_, st, ?_⟩
  refine ⟨_, _, _, _, _, bk_x1.loadA0 (by kernel_rfl), ?_⟩
  refine Ret.at (impl_AfterFee_c o_x0.rows hc0 o_x1.reps rfl a2 (ht.ext x)) ?_
  rintro v W16 ⟨vs_g0, f_g0, hv, o_g0, nd_g0, co_g0, ct_g0, y⟩
  subst hv
  have tn_g0 := tcnts_nn ct_g0
  have lt_o_g0 : ∀ k ∈ f_g0, W15.heap.size ≤ k ∧ k < W16.heap.size := o_g0.lt
  replace x := x.trans y
  replace bk_a1 := bk_a1.ext y
  replace bk_w0 := bk_w0.ext y
  replace bk_x1 := bk_x1.ext y
  replace o_w0 := o_w0.ext y
  replace o_x0 := o_x0.ext y
  replace o_x1 := o_x1.ext y
  have ll17 := y.le
  obtain ⟨gg00, gg01, gg02p, gg02n, gg02c, gg02z, rfl, hd_g0, gg02h⟩ := open_Money o_g0.reps co_g0
  refine ⟨_, _, _, _, _, _, rfl, ?_⟩
  intro r_g0 W17 hn
  have er_g0 := hn.r_eq; have sr_g0 := hn.size
  have y := hn.ext
  replace x := x.trans y
  replace bk_a1 := bk_a1.ext y
  replace bk_w0 := bk_w0.ext y
  replace bk_x1 := bk_x1.ext y
  replace o_w0 := o_w0.ext y
  replace o_x0 := o_x0.ext y
  replace o_x1 := o_x1.ext y
  replace o_g0 := o_g0.ext y
  have ll18 := y.le
  have bk_g0 := hn.blk; clear hn
  obtain ⟨W18, st, bq, ch, sz⟩ := bk_g0.storeA0 (P := P) (t := T_impl_Money) (xs := [.string gg00, .bool gg01, .slice gg02p gg02n gg02c]) (by kernel_rfl) rfl o_g0.reps.cells1
  replace x := x.chg ch (by simp; omega)
  replace bk_a1 := bk_a1.chg ch (by simp; omega)
  replace bk_w0 := bk_w0.chg ch (by simp; omega)
  replace bk_x1 := bk_x1.chg ch (by simp; omega)
  replace o_w0 := o_w0.chg ch (fun k hk hm => by have h1 := lt_o_w0 k hk; simp at hm; omega)
  replace o_x0 := o_x0.chg ch (fun k hk hm => by have h1 := lt_o_x0 k hk; simp at hm; omega)
  replace o_x1 := o_x1.chg ch (fun k hk hm => by have h1 := lt_o_x1 k hk; simp at hm; omega)
  replace o_g0 := o_g0.chg ch (fun k hk hm => by have h1 := lt_o_g0 k hk; simp at hm; omega)
  have bk_g0 := bq; clear bq
  have ll19 := ch.size
  refine ⟨_, st, ?_⟩
  refine ⟨_, _, _, _, _, bk_g0.loadA0 (by kernel_rfl), _, _, _, _, _, bk_w0.loadA0 (by kernel_rfl), ?_⟩
  refine Ret.at (laws_eqMoney_c o_g0.reps o_w0.reps co_g0 co_w0) ?_
  rintro v W19 ⟨hv, y⟩
  subst hv
  replace x := x.trans y
  replace bk_a1 := bk_a1.ext y
  replace bk_w0 := bk_w0.ext y
  replace bk_x1 := bk_x1.ext y
  replace bk_g0 := bk_g0.ext y
  replace o_w0 := o_w0.ext y
  replace o_x0 := o_x0.ext y
  replace o_x1 := o_x1.ext y
  replace o_g0 := o_g0.ext y
  have ll20 := y.le
  refine ⟨_, rfl, ifN (fun h => absurd h (by simp)) (fun _ => ?_)⟩
  refine ⟨fun h => absurd h (bne_no rfl), fun _ => ?_⟩
  unfold laws_FnExactAfterFee_j0
  refine Ret.at (laws_toStepS_c (h0.ext x) hc0 hz0 hb0) ?_
  rintro v W20 ⟨p_y0, c_y0, f_y0, hv, o_y0, y⟩
  subst hv
  have lt_o_y0 : ∀ k ∈ f_y0, W19.heap.size ≤ k ∧ k < W20.heap.size := o_y0.lt
  have y2 := y
  replace x := x.trans y
  replace bk_a1 := bk_a1.ext y
  replace bk_w0 := bk_w0.ext y
  replace bk_x1 := bk_x1.ext y
  replace bk_g0 := bk_g0.ext y
  replace o_w0 := o_w0.ext y
  replace o_x0 := o_x0.ext y
  replace o_x1 := o_x1.ext y
  replace o_g0 := o_g0.ext y
  have ll21 := y.le
  refine ⟨_, _, _, rfl, ?_⟩
  refine Ret.at (laws_eqStepS_c o_x0.rows o_y0.rows hc0 hc0) ?_
  rintro v W21 ⟨hv, y⟩
  subst hv
  replace x := x.trans y
  replace bk_a1 := bk_a1.ext y
  replace bk_w0 := bk_w0.ext y
  replace bk_x1 := bk_x1.ext y
  replace bk_g0 := bk_g0.ext y
  replace o_w0 := o_w0.ext y
  replace o_x0 := o_x0.ext y
  replace o_x1 := o_x1.ext y
  replace o_g0 := o_g0.ext y
  have ll22 := y.le
  refine ⟨_, rfl, ifN (fun h => absurd h (by simp)) (fun _ => ?_)⟩
  refine ⟨_, _, _, _, _, fun W' hW => (bk_x1.ext ((Ext.drew _).trans hW)).loadA0 (by kernel_rfl), _, _, _, _, _, fun W' hW => (bk_a1.ext ((Ext.drew _).trans hW)).loadA0 (by kernel_rfl), ?_⟩
  have y := Ext.drew W21
  replace x := x.trans y
  replace bk_a1 := bk_a1.ext y
  replace bk_w0 := bk_w0.ext y
  replace bk_x1 := bk_x1.ext y
  replace bk_g0 := bk_g0.ext y
  replace o_w0 := o_w0.ext y
  replace o_x0 := o_x0.ext y
  replace o_x1 := o_x1.ext y
  replace o_g0 := o_g0.ext y
  have ll23 := y.le
  refine Ret.at (laws_toMoney_c (hr1.ext x) rfl (by simp only [bulks, D0.bulk, List.map_cons, List.map_nil, List.sum_cons, List.sum_nil]; omega)) ?_
  rintro v W22 ⟨vs, f_y1, hv, o_y1, nd_y1, y⟩
  subst hv
  obtain ⟨ty10, ty11, ty12p, ty12n, ty12c, ty12z, rfl, hdy1, ty12h⟩ := open_Money o_y1.reps rfl
  have lt_o_y1 : ∀ k ∈ f_y1, W21.heap.size ≤ k ∧ k < W22.heap.size := o_y1.lt
  have y2 := y
  replace x := x.trans y
  replace bk_a1 := bk_a1.ext y
  replace bk_w0 := bk_w0.ext y
  replace bk_x1 := bk_x1.ext y
  replace bk_g0 := bk_g0.ext y
  replace o_w0 := o_w0.ext y
  replace o_x0 := o_x0.ext y
  replace o_x1 := o_x1.ext y
  replace o_g0 := o_g0.ext y
  have ll24 := y.le
  refine ⟨_, _, _, _, _, rfl, y, ?_⟩
  refine Ret.at (laws_eqMoney_c o_x1.reps o_y1.reps rfl rfl) ?_
  rintro v W23 ⟨hv, y⟩
  subst hv
  replace x := x.trans y
  replace bk_a1 := bk_a1.ext y
  replace bk_w0 := bk_w0.ext y
  replace bk_x1 := bk_x1.ext y
  replace bk_g0 := bk_g0.ext y
  replace o_w0 := o_w0.ext y
  replace o_x0 := o_x0.ext y
  replace o_x1 := o_x1.ext y
  replace o_g0 := o_g0.ext y
  have ll25 := y.le
  refine ⟨_, rfl, ifN (fun h => absurd h (by simp)) (fun _ => ?_)⟩
  have cn0 := cntL_nonneg l0; have cb0 := cntL_le l0 (m := 4) (fun y hy => by rw [code_len (hc0 y hy)]; decide)
  have cl0 : cntL l0 ≤ 100000000 := by have := h0.1; omega
  refine Ret.at (laws_markStepS_c o_x0 hc0 (by omega) (by omega)) ?_
  rintro v W24 ⟨hv, on, ch⟩
  subst hv
  replace x := x.chg ch (fun k hk => by have := lt_o_x0 k hk; omega)
  replace bk_a1 := bk_a1.chg ch (fun hm => by have := lt_o_x0 _ hm; omega)
  replace bk_w0 := bk_w0.chg ch (fun hm => by have := lt_o_x0 _ hm; omega)
  replace bk_x1 := bk_x1.chg ch (fun hm => by have := lt_o_x0 _ hm; omega)
  replace bk_g0 := bk_g0.chg ch (fun hm => by have := lt_o_x0 _ hm; omega)
  replace o_w0 := o_w0.chg ch (fun k hk hm => by have h1 := lt_o_w0 k hk; have h2 := lt_o_x0 k hm; omega)
  replace o_x1 := o_x1.chg ch (fun k hk hm => by have h1 := lt_o_x1 k hk; have h2 := lt_o_x0 k hm; omega)
  replace o_g0 := o_g0.chg ch (fun k hk hm => by have h1 := lt_o_g0 k hk; have h2 := lt_o_x0 k hm; omega)
  have ll26 := ch.size
  replace o_x0 := on; clear on
  refine ⟨_, rfl, ?_⟩
  refine ⟨_, _, _, _, _, bk_x1.loadA0 (by kernel_rfl), ?_⟩
  refine Ret.at (laws_markMoney_c o_x1 nd_x1 rfl (by first | omega | (simp only [tcnts]; omega)) (by simp only [tcnts]; omega)) ?_
  rintro v W25 ⟨hv, on, ch⟩
  simp only [tcnts] at hv
  subst hv
  replace x := x.chg ch (fun k hk => by have := lt_o_x1 k hk; omega)
  replace bk_a1 := bk_a1.chg ch (fun hm => by have := lt_o_x1 _ hm; omega)
  replace bk_w0 := bk_w0.chg ch (fun hm => by have := lt_o_x1 _ hm; omega)
  replace bk_x1 := bk_x1.chg ch (fun hm => by have := lt_o_x1 _ hm; omega)
  replace bk_g0 := bk_g0.chg ch (fun hm => by have := lt_o_x1 _ hm; omega)
  replace o_w0 := o_w0.chg ch (fun k hk hm => by have h1 := lt_o_w0 k hk; have h2 := lt_o_x1 k hm; omega)
  replace o_x0 := o_x0.chg ch (fun k hk hm => by have h1 := lt_o_x0 k hk; have h2 := lt_o_x1 k hm; omega)
  replace o_g0 := o_g0.chg ch (fun k hk hm => by have h1 := lt_o_g0 k hk; have h2 := lt_o_x1 k hm; omega)
  have ll27 := ch.size
  replace o_x1 := on; clear on
  refine ⟨_, rfl, ?_⟩
  refine ifD (fun h => absurd h (by omega)) (fun _ => ?_)
  refine ⟨_, _, _, _, _, bk_g0.loadA0 (by kernel_rfl), _, _, _, _, _, bk_w0.loadA0 (by kernel_rfl), ?_⟩
  refine Ret.at (laws_eqMoney_c o_g0.reps o_w0.reps co_g0 co_w0) ?_
  rintro v W26 ⟨hv, y⟩
  subst hv
  replace x := x.trans y
  replace bk_a1 := bk_a1.ext y
  replace bk_w0 := bk_w0.ext y
  replace bk_x1 := bk_x1.ext y
  replace bk_g0 := bk_g0.ext y
  replace o_w0 := o_w0.ext y
  replace o_x0 := o_x0.ext y
  replace o_x1 := o_x1.ext y
  replace o_g0 := o_g0.ext y
  have ll28 := y.le
  refine ⟨_, rfl, ifN (fun h => absurd h (by simp)) (fun _ => ?_)⟩
  refine ⟨fun h => absurd h (bne_no rfl), fun _ => ?_⟩
  unfold laws_FnExactAfterFee_j1
  refine ⟨_, _, _, _, _, bk_g0.loadA0 (by kernel_rfl), ?_⟩
  refine Ret.at (laws_markMoney_c o_g0 nd_g0 co_g0 (by omega) (by omega)) ?_
  rintro v W27 ⟨hv, on, ch⟩
  subst hv
  replace x := x.chg ch (fun k hk => by have := lt_o_g0 k hk; omega)
  replace bk_a1 := bk_a1.chg ch (fun hm => by have := lt_o_g0 _ hm; omega)
  replace bk_w0 := bk_w0.chg ch (fun hm => by have := lt_o_g0 _ hm; omega)
  replace bk_x1 := bk_x1.chg ch (fun hm => by have := lt_o_g0 _ hm; omega)
  replace bk_g0 := bk_g0.chg ch (fun hm => by have := lt_o_g0 _ hm; omega)
  replace o_w0 := o_w0.chg ch (fun k hk hm => by have h1 := lt_o_w0 k hk; have h2 := lt_o_g0 k hm; omega)
  replace o_x0 := o_x0.chg ch (fun k hk hm => by have h1 := lt_o_x0 k hk; have h2 := lt_o_g0 k hm; omega)
  replace o_x1 := o_x1.chg ch (fun k hk hm => by have h1 := lt_o_x1 k hk; have h2 := lt_o_g0 k hm; omega)
  have ll29 := ch.size
  replace o_g0 := on; clear on
  refine ⟨_, rfl, ?_⟩
  refine ⟨_, _, _, _, _, bk_g0.loadA0 (by kernel_rfl), ?_⟩
  refine Ret.at (laws_heldMoney_c o_g0.reps co_g0 (by omega) (by omega)) ?_
  rintro v W28 ⟨hv, y⟩
  subst hv
  replace x := x.trans y
  replace bk_a1 := bk_a1.ext y
  replace bk_w0 := bk_w0.ext y
  replace bk_x1 := bk_x1.ext y
  replace bk_g0 := bk_g0.ext y
  replace o_w0 := o_w0.ext y
  replace o_x0 := o_x0.ext y
  replace o_x1 := o_x1.ext y
  replace o_g0 := o_g0.ext y
  have ll30 := y.le
  refine ⟨_, rfl, ifD (fun h => absurd h (by omega)) (fun _ => ?_)⟩
  refine ifD (fun h => absurd rfl h) (fun _ => ?_)
  have y := Ext.drew W28
  replace x := x.trans y
  replace bk_a1 := bk_a1.ext y
  replace bk_w0 := bk_w0.ext y
  replace bk_x1 := bk_x1.ext y
  replace bk_g0 := bk_g0.ext y
  replace o_w0 := o_w0.ext y
  replace o_x0 := o_x0.ext y
  replace o_x1 := o_x1.ext y
  replace o_g0 := o_g0.ext y
  have ll31 := y.le
  have bd1 := bk_a1
  intro ssx W29 F
  have S := FlS.first F rfl
  have y := F.ext
  replace x := x.trans y
  replace bk_a1 := bk_a1.ext y
  replace bk_w0 := bk_w0.ext y
  replace bk_x1 := bk_x1.ext y
  replace bk_g0 := bk_g0.ext y
  replace o_w0 := o_w0.ext y
  replace o_x0 := o_x0.ext y
  replace o_x1 := o_x1.ext y
  replace o_g0 := o_g0.ext y
  have ll32 := y.le
  refine Ret.at (laws_toStepS_c (h0.ext x) hc0 hz0 hb0) ?_
  rintro v W30 ⟨p_h0, c_h0, f_h0, hv, o_h0, y⟩
  subst hv
  have lt_o_h0 : ∀ k ∈ f_h0, W29.heap.size ≤ k ∧ k < W30.heap.size := o_h0.lt
  have yy := y
  replace x := x.trans y
  replace bk_a1 := bk_a1.ext y
  replace bk_w0 := bk_w0.ext y
  replace bk_x1 := bk_x1.ext y
  replace bk_g0 := bk_g0.ext y
  replace o_w0 := o_w0.ext y
  replace o_x0 := o_x0.ext y
  replace o_x1 := o_x1.ext y
  replace o_g0 := o_g0.ext y
  replace S := S.ext y
  have ll33 := y.le
  refine ⟨_, _, _, rfl, yy, ?_⟩
  refine ⟨_, _, _, _, _, fun W' hW => (bd1.ext hW).loadA0 (by kernel_rfl), ?_⟩
  intro ssx W31 F
  have S := S.step F
  have y := F.ext
  replace x := x.trans y
  replace bk_a1 := bk_a1.ext y
  replace bk_w0 := bk_w0.ext y
  replace bk_x1 := bk_x1.ext y
  replace bk_g0 := bk_g0.ext y
  replace o_w0 := o_w0.ext y
  replace o_x0 := o_x0.ext y
  replace o_x1 := o_x1.ext y
  replace o_g0 := o_g0.ext y
  replace o_h0 := o_h0.ext y
  have ll34 := y.le
  refine Ret.at (laws_toMoney_c (hr1.ext x) rfl (by simp only [bulks, D0.bulk, List.map_cons, List.map_nil, List.sum_cons, List.sum_nil]; omega)) ?_
  rintro v W32 ⟨vs, f_h1, hv, o_h1, nd_h1, y⟩
  subst hv
  obtain ⟨th10, th11, th12p, th12n, th12c, th12z, rfl, hdh1, th12h⟩ := open_Money o_h1.reps rfl
  have lt_o_h1 : ∀ k ∈ f_h1, W31.heap.size ≤ k ∧ k < W32.heap.size := o_h1.lt
  have yy := y
  replace x := x.trans y
  replace bk_a1 := bk_a1.ext y
  replace bk_w0 := bk_w0.ext y
  replace bk_x1 := bk_x1.ext y
  replace bk_g0 := bk_g0.ext y
  replace o_w0 := o_w0.ext y
  replace o_x0 := o_x0.ext y
  replace o_x1 := o_x1.ext y
  replace o_g0 := o_g0.ext y
  replace o_h0 := o_h0.ext y
  replace S := S.ext y
  have ll35 := y.le
  refine ⟨_, _, _, _, _, rfl, ?_⟩
  intro ssx W33 F
  have S := S.step F
  have y := F.ext
  replace x := x.trans y
  replace bk_a1 := bk_a1.ext y
  replace bk_w0 := bk_w0.ext y
  replace bk_x1 := bk_x1.ext y
  replace bk_g0 := bk_g0.ext y
  replace o_w0 := o_w0.ext y
  replace o_x0 := o_x0.ext y
  replace o_x1 := o_x1.ext y
  replace o_g0 := o_g0.ext y
  replace o_h0 := o_h0.ext y
  replace o_h1 := o_h1.ext y
  have ll36 := y.le
  have Sc := S
  refine Ret.at (impl_AfterFee_c o_h0.rows hc0 o_h1.reps rfl a2 (ht.ext x)) ?_
  rintro v W34 ⟨vs_h0, f_h0, hv, o_h0, nd_h0, co_h0, ct_h0, y⟩
  subst hv
  have tn_h0 := tcnts_nn ct_h0
  have lt_o_h0 : ∀ k ∈ f_h0, W33.heap.size ≤ k ∧ k < W34.heap.size := o_h0.lt
  replace x := x.trans y
  replace bk_a1 := bk_a1.ext y
  replace bk_w0 := bk_w0.ext y
  replace bk_x1 := bk_x1.ext y
  replace bk_g0 := bk_g0.ext y
  replace o_w0 := o_w0.ext y
  replace o_x0 := o_x0.ext y
  replace o_x1 := o_x1.ext y
  replace o_g0 := o_g0.ext y
  replace S := S.ext y
  have ll37 := y.le
  obtain ⟨gh00, gh01, gh02p, gh02n, gh02c, gh02z, rfl, hd_h0, gh02h⟩ := open_Money o_h0.reps co_h0
  refine ⟨_, _, _, _, _, _, rfl, ?_⟩
  intro ssx W35 r_h0 F G_h0
  have S := S.step F
  have y := F.ext
  replace x := x.trans y
  replace bk_a1 := bk_a1.ext y
  replace bk_w0 := bk_w0.ext y
  replace bk_x1 := bk_x1.ext y
  replace bk_g0 := bk_g0.ext y
  replace o_w0 := o_w0.ext y
  replace o_x0 := o_x0.ext y
  replace o_x1 := o_x1.ext y
  replace o_g0 := o_g0.ext y
  replace o_h0 := o_h0.ext y
  have ll38 := y.le
  have FF := F
  obtain ⟨sr_h0, lr_h0, bk_h0⟩ := S.blk G_h0 rfl
  have ap_h0 := Sc.apart FF G_h0
  obtain ⟨W36, st, bq, ch, sz⟩ := bk_h0.storeA0 (P := P) (t := T_impl_Money) (xs := [.string gh00, .bool gh01, .slice gh02p gh02n gh02c]) (by kernel_rfl) rfl o_h0.reps.cells1
  replace x := x.chg ch (by simp; omega)
  replace bk_a1 := bk_a1.chg ch (by simp; omega)
  replace bk_w0 := bk_w0.chg ch (by simp; omega)
  replace bk_x1 := bk_x1.chg ch (by simp; omega)
  replace bk_g0 := bk_g0.chg ch (by simp; omega)
  replace o_w0 := o_w0.chg ch (fun k hk hm => by have h1 := lt_o_w0 k hk; simp at hm; omega)
  replace o_x0 := o_x0.chg ch (fun k hk hm => by have h1 := lt_o_x0 k hk; simp at hm; omega)
  replace o_x1 := o_x1.chg ch (fun k hk hm => by have h1 := lt_o_x1 k hk; simp at hm; omega)
  replace o_g0 := o_g0.chg ch (fun k hk hm => by have h1 := lt_o_g0 k hk; simp at hm; omega)
  replace o_h0 := o_h0.chg ch (fun k hk hm => by have h1 := lt_o_h0 k hk; simp at hm; omega)
  have bk_h0 := bq; clear bq
  have ll39 := ch.size
  refine ⟨_, st, ?_⟩
  refine ⟨_, _, _, _, _, bk_h0.loadA0 (by kernel_rfl), _, _, _, _, _, bk_w0.loadA0 (by kernel_rfl), ?_⟩
  refine Ret.at (laws_eqMoney_c o_h0.reps o_w0.reps co_h0 co_w0) ?_
  rintro v W37 ⟨hv, y⟩
  subst hv
  replace x := x.trans y
  replace bk_a1 := bk_a1.ext y
  replace bk_w0 := bk_w0.ext y
  replace bk_x1 := bk_x1.ext y
  replace bk_g0 := bk_g0.ext y
  replace bk_h0 := bk_h0.ext y
  replace o_w0 := o_w0.ext y
  replace o_x0 := o_x0.ext y
  replace o_x1 := o_x1.ext y
  replace o_g0 := o_g0.ext y
  replace o_h0 := o_h0.ext y
  have ll40 := y.le
  refine ⟨_, rfl, ifN (fun h => absurd h (by simp)) (fun _ => ?_)⟩
  refine ⟨fun h => absurd h (bne_no rfl), fun _ => ?_⟩
  unfold laws_FnExactAfterFee_j2
  refine ⟨_, _, _, _, _, bk_g0.loadA0 (by kernel_rfl), ?_⟩
  refine Ret.at (laws_heldMoney_c o_g0.reps co_g0 (by omega) (by omega)) ?_
  rintro v W38 ⟨hv, y⟩
  subst hv
  replace x := x.trans y
  replace bk_a1 := bk_a1.ext y
  replace bk_w0 := bk_w0.ext y
  replace bk_x1 := bk_x1.ext y
  replace bk_g0 := bk_g0.ext y
  replace bk_h0 := bk_h0.ext y
  replace o_w0 := o_w0.ext y
  replace o_x0 := o_x0.ext y
  replace o_x1 := o_x1.ext y
  replace o_g0 := o_g0.ext y
  replace o_h0 := o_h0.ext y
  have ll41 := y.le
  refine ⟨_, rfl, ifD (fun h => absurd h (by omega)) (fun _ => ?_)⟩
  refine ifD (fun h => absurd rfl h) (fun _ => ?_)
  exact ⟨rfl, x⟩
end Go.Proofs.YtmajiilehdpdmaaGreatDoor
