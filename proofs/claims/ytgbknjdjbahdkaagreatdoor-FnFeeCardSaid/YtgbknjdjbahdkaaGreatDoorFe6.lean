/-
  Parts of the proof of fnFee_holds: CStepsTo, CStepAt, SxRound, GBFeeExact, CFeeA, CFeeE, CFeeX, CFeeExact, CFee, CFnFeeL, CAfterFee, CFnFeeM, CFnFeeP, CFnFee.
  Conditions: none.
-/
import Derived.WalkKit
import Derived.RangeFuncNested
import Derived.RangeFuncBound
import Derived.RangeFuncCalls
import Derived.RangeFuncLeaves
import Derived.Shelf.Abstract
import Derived.Shelf.RegionOpen
import Derived.OwnWalkIn
import Derived.TacticsInMore
import Derived.LoopNIn
import Derived.LoopIn
import Derived.RangeFuncBox
import Derived.OrdersIn
import Derived.Test.YtgbknjdjbahdkaaGreatDoorFe5
set_option linter.unusedVariables false
set_option linter.unusedSimpArgs false
namespace Go.RowKit
end Go.RowKit
namespace Go.Shelf
end Go.Shelf

namespace Go.Proofs.YtgbknjdjbahdkaaGreatDoor
open Go Go.RowKit Go.Shelf Go.Proofs Go.Proofs.YtgbknjdjbahdkaaGreatDoor.Sx
set_option maxRecDepth 100000 in
set_option maxHeartbeats 2000000 in
theorem stepsTo_in (a b : Option Addr) (n c m d : Nat) (w : World) :
    CallsIn Fence.wide 9 Tryz.prog 46 #[.slice a n c, .slice b m d] w fun e w' => e = .returned (.func (.func 92) #[] #[.pointer (some ⟨w.heap.size, 0, none⟩), .pointer (some ⟨w.heap.size + 1, 0, none⟩)]) /\ w' = (w.alloc (.cells #[.slice a n c] 22)).alloc (.cells #[.slice b m d] 31) := by
  refine callsIn_of_wp Tryz.func46 rfl trivial ?_ rfl
  simp only [Tryz.ntmps46, List.size_toArray, List.length_cons, List.length_nil, Nat.reduceAdd, Nat.reduceSub, Array.replicate_succ, Array.replicate_zero, List.push_toArray, List.append_toArray, List.nil_append, List.cons_append]
  gi_wp2
  go_ret
  exact ⟨by simp, rfl⟩
theorem cell_lt {w : World} {b o : Nat} {v : Value} (h : w.cell? ⟨b, o, none⟩ = some v) : b < w.heap.size := by
  rcases Nat.lt_or_ge b w.heap.size with h1 | h1
  · exact h1
  · have : w.heap[b]? = none := Array.getElem?_eq_none h1
    simp [World.cell?, this] at h
theorem Sx.Ext.trans' {a b c : World} (h : Ext a b) (k : Below a.heap.size b c) : Ext a c := Below.trans h k
theorem grown_of_ext {w w' : World} (h : Ext w w') : w.grownBy w' none := ⟨h.os, h.tape, h.output, h.size, fun k hk _ => h.block k hk⟩
set_option maxRecDepth 100000 in
set_option maxHeartbeats 4000000 in
theorem stepsTo1_in (l Bs Bm b off n c : Nat) (q : Option Addr) (m d K : Nat) (zs : List Int) (w0 : World) (F : Nat -> Int) (Gb : Nat -> Bool) (Gp : Nat -> Option Addr) (Gn Gc : Nat -> Nat) (Gs : Nat -> Int)
    (hn : n <= 8) (hm : IntsR w0 q m d zs) (hrow : ∀ j, j < n -> w0.cell? ⟨b, off + j * 4, none⟩ = some (.int .i64 (F j)) /\ w0.cell? ⟨b, off + j * 4 + 1, none⟩ = some (.bool (Gb j)) /\ w0.cell? ⟨b, off + j * 4 + 2, none⟩ = some (.slice (Gp j) (Gn j) (Gc j)) /\ w0.cell? ⟨b, off + j * 4 + 3, none⟩ = some (.int .i64 (Gs j)))
    (hb : b < w0.heap.size) (hz : Canon zs) (hF : ∀ j, j < n -> 0 <= F j /\ F j <= 9223372036854775807) (hK : K <= n) (hK1 : ∀ j, j < K -> cmpL (digs (F j).toNat) zs <= 0) (hK2 : K < n -> 0 < cmpL (digs (F K).toNat) zs)
    (J Jx : List Nat -> World -> Prop)
    (hY : ∀ pre x W, x < K -> J pre W -> pre.length < n -> YieldAt Fence.wide 8 Tryz.prog l #[.int .i64 (x : Nat), .agg #[.int .i64 (F x), .bool (Gb x), .slice (Gp x) (Gn x) (Gc x), .int .i64 (Gs x)]] W fun e W' =>
      (e = .returned (.bool true) /\ J (pre ++ [x]) W' /\ (Below w0.heap.size W W' /\ W'.cell? ⟨Bm, 0, none⟩ = W.cell? ⟨Bm, 0, none⟩)) ∨ (e = .returned (.bool false) /\ Jx (pre ++ [x]) W'))
    (W : World) (hJ : AbidesFrom W.heap.size J) (hx : Ext w0 W) (hBs : W.cell? ⟨Bs, 0, none⟩ = some (.slice (some ⟨b, off, none⟩) n c)) (hBm : W.cell? ⟨Bm, 0, none⟩ = some (.slice q m d)) (h0 : J [] W) :
    CallsIn Fence.wide 9 Tryz.prog 92 #[.func (.yield l) #[] #[], .pointer (some ⟨Bs, 0, none⟩), .pointer (some ⟨Bm, 0, none⟩)] W fun e W' => (∃ v, e = .returned v) /\
      ((∃ ys, ys = List.range K /\ J ys W') ∨ (∃ pre, True /\ Jx pre W')) := by
  refine callsIn_of_wp Tryz.func92 rfl trivial ?_ rfl
  simp only [Tryz.ntmps92, List.size_toArray, List.length_cons, List.length_nil, Nat.reduceAdd, Nat.reduceSub, Array.replicate_succ, Array.replicate_zero, List.push_toArray, List.append_toArray, List.nil_append, List.cons_append]
  gi_wp2
  gi_loopw [8] (fun i wr => ∃ k : Nat, k <= K /\ i = .int .i64 k /\ J (List.range k) wr /\ Ext w0 wr /\ wr.cell? ⟨Bm, 0, none⟩ = some (.slice q m d))
    (fun i _ => n - (intOf i).toNat)
  case atStart => exact ⟨0, Nat.zero_le _, rfl, h0, hx, hBm⟩
  case round =>
    obtain ⟨k, hk, rfl, hJs, hnx, hbm⟩ := hrel
    by_cases hlt : k < n
    · obtain ⟨r0, r1, r2, r3⟩ := hrow k hlt
      have r0 := (hnx.cell (p := ⟨b, off + k * 4, none⟩) hb).trans r0
      have r1 := (hnx.cell (p := ⟨b, off + k * 4 + 1, none⟩) hb).trans r1
      have r2 := (hnx.cell (p := ⟨b, off + k * 4 + 2, none⟩) hb).trans r2
      have r3 := (hnx.cell (p := ⟨b, off + k * 4 + 3, none⟩) hb).trans r3
      gi_wp2
      have hmx : Tryz.prog.follows .mixedOrders = true := by kernel_rfl
      obtain ⟨w1, hw1⟩ : ∃ w1, wr.alloc (Obj.cells #[Value.int IntKind.i64 (F k), Value.bool (Gb k), Value.slice (Gp k) (Gn k) (Gc k), Value.int IntKind.i64 (Gs k)] 48) = w1 := ⟨_, rfl⟩
      have x1 : Ext wr w1 := by rw [<- hw1]; exact (Below.refl _ _).alloc (Nat.le_refl _) _
      have bk : Blk w1 wr.heap.size 48 [Value.int IntKind.i64 (F k), Value.bool (Gb k), Value.slice (Gp k) (Gn k) (Gc k), Value.int IntKind.i64 (Gs k)] := by rw [<- hw1]; exact heap_alloc_new wr _
      obtain ⟨B, hB⟩ : ∃ B, wr.heap.size = B := ⟨_, rfl⟩
      rw [hB] at bk
      have hbm1 : w1.cell? ⟨Bm, 0, none⟩ = some (.slice q m d) := by
        exact (x1.cell (p := ⟨Bm, 0, none⟩) (cell_lt hbm)).trans hbm
      rw [hw1, hB]
      have hc0 : w1.cell? ⟨B, 0, none⟩ = some (.int .i64 (F k)) := bk.cell 0
      have hc1 : w1.cell? ⟨B, 1, none⟩ = some (.bool (Gb k)) := bk.cell 1
      have hc2 : w1.cell? ⟨B, 2, none⟩ = some (.slice (Gp k) (Gn k) (Gc k)) := bk.cell 2
      have hc3 : w1.cell? ⟨B, 3, none⟩ = some (.int .i64 (Gs k)) := bk.cell 3
      have X1 : Ext w0 w1 := hnx.trans x1
      obtain ⟨f0, f1⟩ := hF k hlt
      clear hw1
      have lB := bk.lt
      obtain ⟨cv, hcv⟩ : ∃ cv, cmpL (digs (F k).toNat) zs = cv := ⟨_, rfl⟩
      have hcmp : ∀ W, Ext w0 W -> ∀ p n c, IntsR W p n c (digs (F k).toNat) -> Ret P n_impl_natCmp [.slice p n c, .slice q m d] W fun v w' => v = .int .i64 cv /\ Ext W w' := fun W hW p n c hr => by rw [<- hcv]; exact impl_natCmp_c hr (hm.ext hW)
      have lM := cell_lt hbm1
      have h3 : cv = -1 ∨ cv = 0 ∨ cv = 1 := by
        rw [<- hcv]
        rcases cmpL_val (digs_canon (F k).toNat) hz with ⟨h, _⟩ | ⟨h, _⟩ | ⟨h, _⟩
        · exact .inl h
        · exact .inr (.inl h)
        · exact .inr (.inr h)
      have hkK : cv <= 0 -> k < K := fun h => by
        rcases Nat.lt_or_ge k K with h1 | h1
        · exact h1
        · have : K = k := by omega
          subst this
          have := hK2 hlt
          rw [hcv] at this; omega
      have hKk : 0 < cv -> K = k := fun h => by
        rcases Nat.lt_or_ge k K with h1 | h1
        · have := hK1 k h1
          rw [hcv] at this; omega
        · omega
      rcases h3 with rfl | rfl | rfl
      · have hkK := hkK (by omega)
        gi_region_with_o (first
          | (refine ⟨trivial, ?_⟩; gi_at_call 48; refine (callsIn_wide.2 (impl_NatOf_c f0 f1)).mono ?_; rintro e w2 ⟨v, rfl, p2, n2, c2, rfl, ho2, y2⟩
             have z2 := (Ext.drew w1).trans y2
             have hr2 := ho2.ints
             have hbm2 := (z2.cell (p := ⟨Bm, 0, none⟩) lM).trans hbm1)
          | (refine ⟨trivial, ?_⟩; gi_at_call 47; refine (callsIn_wide.2 (hcmp _ (X1.trans z2) _ _ _ hr2)).mono ?_; rintro e w3 ⟨v, rfl, rfl, y3⟩
             have z3 := z2.trans y3
             have hbm3 := (z3.cell (p := ⟨Bm, 0, none⟩) lM).trans hbm1
             have he0 := (z3.cell (p := ⟨B, 0, none⟩) lB).trans hc0
             have he1 := (z3.cell (p := ⟨B, 1, none⟩) lB).trans hc1
             have he2 := (z3.cell (p := ⟨B, 2, none⟩) lB).trans hc2
             have he3 := (z3.cell (p := ⟨B, 3, none⟩) lB).trans hc3
             obtain ⟨fn, tmps, assign, body, hy, hR⟩ := hY (List.range k) k w3 hkK (hJ _ wr w3 none hJs (grown_of_ext (x1.trans z3)) (fun r e => by cases e)) (by simp; omega))
          | (refine hR.mono ?_; rintro e W3 hE
             obtain ⟨bv, rfl, hE2⟩ : ∃ bv : Bool, e = Ending.returned (Value.bool bv) /\ ((bv = true /\ J (List.range k ++ [k]) W3 /\ (Below w0.heap.size w3 W3 /\ W3.cell? ⟨Bm, 0, none⟩ = w3.cell? ⟨Bm, 0, none⟩)) ∨ (bv = false /\ Jx (List.range k ++ [k]) W3)) := by
               rcases hE with ⟨h1, h2⟩ | ⟨h1, h2⟩
               · exact ⟨true, h1, .inl ⟨rfl, h2⟩⟩
               · exact ⟨false, h1, .inr ⟨rfl, h2⟩⟩))
        all_goals
          rcases hE2 with ⟨rfl, hJ3, hk3, hk4⟩ | ⟨rfl, hJx3⟩
          · gi_wp2
            go_roundw
            case rel => exact ⟨k + 1, by omega, by simp, by rw [List.range_succ]; exact hJ3, (X1.trans z3).trans' hk3, hk4.trans hbm3⟩
            case measure => simp [intOf]; omega
          · gi_wp2
            refine bodyPost_ret (results_none rfl _ _ _) rfl ?_
            exact ⟨⟨_, rfl⟩, .inr ⟨_, hJx3⟩⟩
      · have hkK := hkK (by omega)
        gi_region_with_o (first
          | (refine ⟨trivial, ?_⟩; gi_at_call 48; refine (callsIn_wide.2 (impl_NatOf_c f0 f1)).mono ?_; rintro e w2 ⟨v, rfl, p2, n2, c2, rfl, ho2, y2⟩
             have z2 := (Ext.drew w1).trans y2
             have hr2 := ho2.ints
             have hbm2 := (z2.cell (p := ⟨Bm, 0, none⟩) lM).trans hbm1)
          | (refine ⟨trivial, ?_⟩; gi_at_call 47; refine (callsIn_wide.2 (hcmp _ (X1.trans z2) _ _ _ hr2)).mono ?_; rintro e w3 ⟨v, rfl, rfl, y3⟩
             have z3 := z2.trans y3
             have hbm3 := (z3.cell (p := ⟨Bm, 0, none⟩) lM).trans hbm1
             have he0 := (z3.cell (p := ⟨B, 0, none⟩) lB).trans hc0
             have he1 := (z3.cell (p := ⟨B, 1, none⟩) lB).trans hc1
             have he2 := (z3.cell (p := ⟨B, 2, none⟩) lB).trans hc2
             have he3 := (z3.cell (p := ⟨B, 3, none⟩) lB).trans hc3
             obtain ⟨fn, tmps, assign, body, hy, hR⟩ := hY (List.range k) k w3 hkK (hJ _ wr w3 none hJs (grown_of_ext (x1.trans z3)) (fun r e => by cases e)) (by simp; omega))
          | (refine hR.mono ?_; rintro e W3 hE
             obtain ⟨bv, rfl, hE2⟩ : ∃ bv : Bool, e = Ending.returned (Value.bool bv) /\ ((bv = true /\ J (List.range k ++ [k]) W3 /\ (Below w0.heap.size w3 W3 /\ W3.cell? ⟨Bm, 0, none⟩ = w3.cell? ⟨Bm, 0, none⟩)) ∨ (bv = false /\ Jx (List.range k ++ [k]) W3)) := by
               rcases hE with ⟨h1, h2⟩ | ⟨h1, h2⟩
               · exact ⟨true, h1, .inl ⟨rfl, h2⟩⟩
               · exact ⟨false, h1, .inr ⟨rfl, h2⟩⟩))
        all_goals
          rcases hE2 with ⟨rfl, hJ3, hk3, hk4⟩ | ⟨rfl, hJx3⟩
          · gi_wp2
            go_roundw
            case rel => exact ⟨k + 1, by omega, by simp, by rw [List.range_succ]; exact hJ3, (X1.trans z3).trans' hk3, hk4.trans hbm3⟩
            case measure => simp [intOf]; omega
          · gi_wp2
            refine bodyPost_ret (results_none rfl _ _ _) rfl ?_
            exact ⟨⟨_, rfl⟩, .inr ⟨_, hJx3⟩⟩
      · obtain rfl := hKk (by omega)
        first
        | (gi_region_with_o (first
          | (refine ⟨trivial, ?_⟩; gi_at_call 48; refine (callsIn_wide.2 (impl_NatOf_c f0 f1)).mono ?_; rintro e w2 ⟨v, rfl, p2, n2, c2, rfl, ho2, y2⟩
             have z2 := (Ext.drew w1).trans y2
             have hr2 := ho2.ints
             have hbm2 := (z2.cell (p := ⟨Bm, 0, none⟩) lM).trans hbm1)
          | (refine ⟨trivial, ?_⟩; gi_at_call 47; refine (callsIn_wide.2 (hcmp _ (X1.trans z2) _ _ _ hr2)).mono ?_; rintro e w3 ⟨v, rfl, rfl, y3⟩
             have z3 := z2.trans y3
             have hbm3 := (z3.cell (p := ⟨Bm, 0, none⟩) lM).trans hbm1
             have he0 := (z3.cell (p := ⟨B, 0, none⟩) lB).trans hc0
             have he1 := (z3.cell (p := ⟨B, 1, none⟩) lB).trans hc1
             have he2 := (z3.cell (p := ⟨B, 2, none⟩) lB).trans hc2
             have he3 := (z3.cell (p := ⟨B, 3, none⟩) lB).trans hc3
             have hJ3 := hJ _ wr w3 none hJs (grown_of_ext (x1.trans z3)) (fun r e => by cases e))
          | (refine (show (∀ (f : FuncId), none = some f -> Fence.wide.fn f) /\ _ from ⟨fun _ h => (by cases h), ?_⟩))))
        | skip
        all_goals
          gi_wp2
          refine bodyPost_ret (results_none rfl _ _ _) rfl ?_
          exact ⟨⟨_, rfl⟩, .inl ⟨_, rfl, hJ3⟩⟩
    · obtain rfl : k = n := by omega
      obtain rfl : K = k := by omega
      gi_wp2
      go_end0
      exact ⟨⟨_, rfl⟩, .inl ⟨_, rfl, hJs⟩⟩
end Go.Proofs.YtgbknjdjbahdkaaGreatDoor
namespace Go.Proofs.YtgbknjdjbahdkaaGreatDoor
open Go Go.RowKit Go.Shelf Go.Proofs Go.Proofs.YtgbknjdjbahdkaaGreatDoor.Sx
def lastLe (l : List (List D0)) (v : Int) : Nat -> Int
  | 0 => -1
  | j + 1 => if stepFrom (l.getD j []) <= v then j else lastLe l v j
def lastI (l : List Nat) : Int := match l.getLast? with
  | some x => (x : Nat)
  | none => -1
theorem lastI_snoc (l : List Nat) (x : Nat) : lastI (l ++ [x]) = (x : Nat) := by simp [lastI]
def stepAt (l : List (List D0)) : List D0 -> Int
  | [.bool b, .ints z] => if stepsOk l && intOk [.bool b, .ints z] then lastLe l (val z) l.length else -1
  | _ => -1
theorem upto_le (f : Nat -> Bool) : ∀ n, ∃ K, K <= n /\ (∀ j, j < K -> f j = true) /\ (K < n -> f K = false)
  | 0 => ⟨0, Nat.le_refl _, fun j h => absurd h (by omega), fun h => absurd h (by omega)⟩
  | n + 1 => by
    obtain ⟨K, h1, h2, h3⟩ := upto_le f n
    rcases Nat.lt_or_ge K n with h | h
    · exact ⟨K, by omega, h2, fun _ => h3 h⟩
    · have : K = n := by omega
      subst this
      cases hf : f K with
      | true => exact ⟨K + 1, Nat.le_refl _, fun j hj => by
          rcases Nat.lt_or_ge j K with h | h
          · exact h2 j h
          · have : j = K := by omega
            rw [this, hf], fun h => absurd h (by omega)⟩
      | false => exact ⟨K, by omega, h2, fun _ => hf⟩
theorem cell_setCell_ne {w : World} {a b : Addr} {v : Value} (h : b.block ≠ a.block) : (w.setCell a v).cell? b = w.cell? b := by
  have : (w.setCell a v).heap[b.block]? = w.heap[b.block]? := by
    unfold World.setCell
    split <;> simp [Array.getElem?_modify, h, Ne.symm h]
  simp only [World.cell?, this]
theorem steps_up {l : List (List D0)} (hall : ∀ i < l.length, stepOk l i = true) : ∀ (i j : Nat), i <= j -> j < l.length -> stepFrom (l.getD i []) <= stepFrom (l.getD j []) := by
  intro i j hij
  induction j with
  | zero => intro _; have : i = 0 := by omega
            subst this; omega
  | succ j ih =>
    intro hj
    rcases Nat.lt_or_ge i (j + 1) with h | h
    · have h1 := ih (by omega) (by omega)
      have h2 := hall (j + 1) hj
      simp only [stepOk, Bool.and_eq_true, Bool.not_eq_true', Bool.and_eq_false_iff, decide_eq_false_iff_not, Nat.add_sub_cancel] at h2
      have h3 := h2.2
      rcases h3 with h3 | h3
      · omega
      · omega
    · have : i = j + 1 := by omega
      subst this; omega
theorem lastLe_range {l : List (List D0)} {n K : Nat} {v : Int} (hl : l.length = n) (hK : K <= n) (hK1 : ∀ j, j < K -> stepFrom (l.getD j []) <= v) (hK2 : K < n -> v < stepFrom (l.getD K [])) (h1 : 1 <= l.length) (h0 : stepFrom (l.getD 0 []) = 0) (hall : ∀ i < l.length, stepOk l i = true) :
    lastI (List.range K) = lastLe l v l.length := by
  have hi : lastI (List.range K) = (K : Int) - 1 := by
    cases K with
    | zero => rfl
    | succ K => rw [List.range_succ, lastI_snoc]; omega
  have key : ∀ j, K <= j -> j <= l.length -> lastLe l v j = (K : Int) - 1 := by
    intro j hKj
    induction j with
    | zero => intro _; have : K = 0 := by omega
              subst this; rfl
    | succ j ih =>
      intro hj
      rcases Nat.lt_or_ge K (j + 1) with h | h
      · have h2 := steps_up hall K j (by omega) (by omega)
        have h3 := hK2 (by omega)
        rw [lastLe, if_neg (by omega)]
        exact ih (by omega) (by omega)
      · have : K = j + 1 := by omega
        subst this
        rw [lastLe, if_pos (hK1 j (by omega))]
        omega
  rw [hi, key _ (by omega) (Nat.le_refl _)]
set_option maxRecDepth 100000 in
set_option maxHeartbeats 4000000 in
theorem impl_StepAt_c {w : World} {p : Option Addr} {n c : Nat} {l : List (List D0)} {xs : List Value} {dy : List D0} (h : RowsR w 4 p n c l) (hc : ∀ x ∈ l, x.map D0.code = [.int, .bool, .ints, .int]) (g : Reps w xs dy) (gc : dy.map D0.code = [.bool, .ints]) :
    Ret P n_impl_StepAt [.slice p n c, .agg ⟨xs⟩] w fun v w' => v = .int .i64 (stepAt l dy) /\ Ext w w' := by
  obtain ⟨b0, q, m, d, z, rfl, rfl, hz⟩ := open_Signed g gc
  refine (callsIn_wide (n := 10)).1 ?_
  change CallsIn Fence.wide 10 Tryz.prog 14 #[.slice p n c, .agg #[.bool b0, .slice q m d]] w fun e w' => ∃ v, e = .returned v /\ v = .int .i64 (stepAt l [.bool b0, .ints z]) /\ Ext w w'
  have xa : ∀ o, Ext w (w.alloc o) := fun o => (Below.refl _ _).alloc (Nat.le_refl _) _
  rcases hs : stepsOk l with _ | _
  · refine callsIn_of_wp_marks Tryz.func14 rfl trivial ?_ rfl
    simp only [Tryz.ntmps14, List.size_toArray, List.length_cons, List.length_nil, Nat.reduceAdd, Nat.reduceSub, Array.replicate_succ, Array.replicate_zero, List.push_toArray, List.append_toArray, List.nil_append, List.cons_append]
    have hS : ∀ W, Ext w W -> Ret P n_impl_StepsOk [.slice p n c] W fun v w' => v = .bool false /\ Ext W w' := fun W x => by rw [<- hs]; exact impl_StepsOk_c (h.ext x) hc
    gi_wp2_with (refine ⟨trivial, ?_⟩; gi_at_call 37; refine (callsIn_wide.2 (hS _ (xa _))).mono ?_; rintro e w2 ⟨v, rfl, rfl, y2⟩)
    refine ⟨trivial, ?_⟩
    gi_wp2
    exact ⟨_, results_tmp rfl _ _ _, _, rfl, by simp only [stepAt, hs, Bool.false_and, Bool.false_eq_true, if_false]; rfl, (xa _).trans y2⟩
  have hS : ∀ W, Ext w W -> Ret P n_impl_StepsOk [.slice p n c] W fun v w' => v = .bool true /\ Ext W w' := fun W x => by rw [<- hs]; exact impl_StepsOk_c (h.ext x) hc
  rcases hi : intOk [.bool b0, .ints z] with _ | _
  · refine callsIn_of_wp_marks Tryz.func14 rfl trivial ?_ rfl
    simp only [Tryz.ntmps14, List.size_toArray, List.length_cons, List.length_nil, Nat.reduceAdd, Nat.reduceSub, Array.replicate_succ, Array.replicate_zero, List.push_toArray, List.append_toArray, List.nil_append, List.cons_append]
    have hI : ∀ W, Ext w W -> Ret P n_impl_IntOk [.agg ⟨[.bool b0, .slice q m d]⟩] W fun v w' => v = .bool false /\ Ext W w' := fun W x => by rw [<- hi]; exact impl_IntOk_c (g.ext x) gc
    have bx := (New.blk (w := w) ⟨rfl, rfl⟩ : Blk (w.alloc (.cells ⟨[.bool b0, .slice q m d]⟩ 33)) w.heap.size 33 [.bool b0, .slice q m d])
    gi_wp2_with (first
      | (refine ⟨trivial, ?_⟩; gi_at_call 37; refine (callsIn_wide.2 (hS _ (xa _))).mono ?_; rintro e w2 ⟨v, rfl, rfl, y2⟩
         have bx2 := bx.ext y2
         have c0 := bx2.cell 0
         have c1 := bx2.cell 1
         simp only [List.getElem?_cons_zero, List.getElem?_cons_succ] at c0 c1)
      | (refine ⟨trivial, ?_⟩; gi_at_call 44; refine (callsIn_wide.2 (hI _ ((xa _).trans y2))).mono ?_; rintro e w3 ⟨v, rfl, rfl, y3⟩))
    exact ⟨_, results_tmp rfl _ _ _, _, rfl, by simp only [stepAt, hs, hi, Bool.and_false, Bool.false_eq_true, if_false]; rfl, ((xa _).trans y2).trans y3⟩
  have hI : ∀ W, Ext w W -> Ret P n_impl_IntOk [.agg ⟨[.bool b0, .slice q m d]⟩] W fun v w' => v = .bool true /\ Ext W w' := fun W x => by rw [<- hi]; exact impl_IntOk_c (g.ext x) gc
  have hval : stepAt l [.bool b0, .ints z] = lastLe l (val z) l.length := by simp only [stepAt, hs, hi, Bool.and_self, if_true]
  rw [hval]
  have hcan : Canon z := by
    obtain ⟨_, b', z', he, hcan, _⟩ := intOk_enc hi
    simp only [List.cons.injEq, D0.bool.injEq, D0.ints.injEq, and_true] at he
    obtain ⟨_, rfl⟩ := he
    exact hcan
  have hln := h.1
  simp only [stepsOk, Bool.and_eq_true, decide_eq_true_eq, List.all_eq_true, List.mem_range] at hs
  obtain ⟨⟨⟨hn1, hn8⟩, hz0⟩, hall⟩ := hs
  obtain ⟨b, off, rfl, hrows⟩ := h.2.2.2 (by omega)
  have hF : ∀ j, j < n -> 0 <= stepFrom (l.getD j []) /\ stepFrom (l.getD j []) <= 9223372036854775807 := fun j hj => by
    have := hall j (by omega)
    simp only [stepOk, Bool.and_eq_true, decide_eq_true_eq] at this
    omega
  have hpick : ∀ j, ∃ t : Bool × Option Addr × Nat × Nat × Int, j < n -> w.cell? ⟨b, off + j * 4, none⟩ = some (.int .i64 (stepFrom (l.getD j []))) /\ w.cell? ⟨b, off + j * 4 + 1, none⟩ = some (.bool t.1) /\ w.cell? ⟨b, off + j * 4 + 2, none⟩ = some (.slice t.2.1 t.2.2.1 t.2.2.2.1) /\ w.cell? ⟨b, off + j * 4 + 3, none⟩ = some (.int .i64 t.2.2.2.2) := by
    intro j
    rcases Nat.lt_or_ge j n with hj | hj
    · have hjl : j < l.length := by omega
      obtain ⟨cs, h1, h2, h3⟩ := hrows j _ (List.getElem?_eq_getElem hjl)
      obtain ⟨a0, a1, a2p, a2n, a2c, a2z, a3, rfl, he, _⟩ := open_Step h2 (hc _ (List.getElem_mem hjl))
      have hfr : stepFrom (l.getD j []) = a0 := by rw [getD_lt hjl, he]; rfl
      exact ⟨(a1, a2p, a2n, a2c, a3), fun _ => ⟨by rw [hfr]; exact h3 0 _ rfl, h3 1 _ rfl, h3 2 _ rfl, h3 3 _ rfl⟩⟩
    · exact ⟨(false, none, 0, 0, 0), fun h => absurd h (by omega)⟩
  obtain ⟨t, ht⟩ := Classical.axiomOfChoice hpick
  have hb : b < w.heap.size := cell_lt (ht 0 (by omega)).1
  obtain ⟨K, hK, hK1, hK2⟩ := upto_le (fun j => decide (stepFrom (l.getD j []) <= val z)) n
  have hcmpv : ∀ j, j < n -> (cmpL (digs (stepFrom (l.getD j [])).toNat) z <= 0 ↔ stepFrom (l.getD j []) <= val z) := fun j hj => by
    have h0 := (hF j hj).1
    have hv : val (digs (stepFrom (l.getD j [])).toNat) = stepFrom (l.getD j []) := by rw [val_digs, Int.toNat_of_nonneg h0]
    rcases cmpL_val (digs_canon (stepFrom (l.getD j [])).toNat) hcan with ⟨e, g⟩ | ⟨e, g⟩ | ⟨e, g⟩ <;> rw [hv] at g <;> omega
  refine callsIn_of_wp_marks Tryz.func14 rfl trivial ?_ rfl
  simp only [Tryz.ntmps14, List.size_toArray, List.length_cons, List.length_nil, Nat.reduceAdd, Nat.reduceSub, Array.replicate_succ, Array.replicate_zero, List.push_toArray, List.append_toArray, List.nil_append, List.cons_append]
  have bx := (New.blk (w := w) ⟨rfl, rfl⟩ : Blk (w.alloc (.cells ⟨[.bool b0, .slice q m d]⟩ 33)) w.heap.size 33 [.bool b0, .slice q m d])
  gi_wp2_with (first
    | (refine ⟨trivial, ?_⟩; gi_at_call 37; refine (callsIn_wide.2 (hS _ (xa _))).mono ?_; rintro e w2 ⟨v, rfl, rfl, y2⟩
       have bx2 := bx.ext y2
       have c0 := bx2.cell 0
       have c1 := bx2.cell 1
       simp only [List.getElem?_cons_zero, List.getElem?_cons_succ] at c0 c1)
    | (refine ⟨trivial, ?_⟩; gi_at_call 44; refine (callsIn_wide.2 (hI _ ((xa _).trans y2))).mono ?_; rintro e w3 ⟨v, rfl, rfl, y3⟩
       have bx3 := bx2.ext y3
       have d1 := bx3.cell 1
       simp only [List.getElem?_cons_zero, List.getElem?_cons_succ] at d1
       have hlt := bx3.lt)
    | (refine ⟨trivial, ?_⟩; gi_at_call 46; refine (stepsTo_in _ _ _ _ _ _ _).mono ?_; rintro e w' ⟨rfl, rfl⟩))
  have bR := Boxed.new w3 3 (.int .i64 (-1))
  have bN := Boxed.new (w3.alloc (.cells #[.int .i64 (-1)] 3)) 22 (.slice (some ⟨b, off, none⟩) n c)
  have bM := Boxed.new ((w3.alloc (.cells #[.int .i64 (-1)] 3)).alloc (.cells #[.slice (some ⟨b, off, none⟩) n c] 22)) 31 (.slice q m d)
  rw [World.size_alloc] at bN
  rw [World.size_alloc, World.size_alloc] at bM
  have xw3 : Ext w w3 := ((xa _).trans y2).trans y3
  have hle3 := xw3.le
  have hB0 : Below w.heap.size w (((w3.alloc (.cells #[.int .i64 (-1)] 3)).alloc (.cells #[.slice (some ⟨b, off, none⟩) n c] 22)).alloc (.cells #[.slice q m d] 31)) := (((xw3 : Below _ _ _).alloc hle3 _).alloc (by simp; omega) _).alloc (by simp; omega) _
  refine wpIn_rangeFunc_ownG (α := Nat) (n := 10) rfl (by omega) (gf := 92) (lb := #[.pointer (some ⟨w3.heap.size + 1, 0, none⟩), .pointer (some ⟨w3.heap.size + 1 + 1, 0, none⟩)]) rfl trivial (enters_of Tryz.func92 (by kernel_rfl) rfl)
    (encs := fun x => #[.int .i64 (x : Nat), .agg #[.int .i64 (stepFrom (l.getD x [])), .bool (t x).1, .slice (t x).2.1 (t x).2.2.1 (t x).2.2.2.1, .int .i64 (t x).2.2.2.2]])
    (Kp := fun A B => Below w.heap.size A B /\ B.cell? ⟨w3.heap.size + 1 + 1, 0, none⟩ = A.cell? ⟨w3.heap.size + 1 + 1, 0, none⟩) (S := fun ys => ys = List.range K) (Sp := fun _ => True) (N := n)
    (fun l' J Jx W hW hJ _ hY h0 => stepsTo1_in l' (w3.heap.size + 1) (w3.heap.size + 1 + 1) b off n c q m d K z w (fun j => stepFrom (l.getD j [])) (fun j => (t j).1) (fun j => (t j).2.1) (fun j => (t j).2.2.1) (fun j => (t j).2.2.2.1) (fun j => (t j).2.2.2.2)
      (by omega) hz ht hb hcan hF hK (fun j hj => (hcmpv j (by omega)).2 (by simpa using hK1 j hj)) (fun hKn => by
        have h1 := hK2 hKn
        have h2 := (hcmpv K hKn).1
        simp only [decide_eq_false_iff_not] at h1
        omega)
      J Jx (fun pre x W _ => hY pre x W) W hJ (Below.trans hB0 (hW.mono hB0.size)) ((hW.cell (p := ⟨w3.heap.size + 1, 0, none⟩) (by simp)).trans (bN.alloc _).cell) ((hW.cell (p := ⟨w3.heap.size + 1 + 1, 0, none⟩) (by simp)).trans bM.cell) h0)
    (fun h k => ⟨h.1.trans k.1, k.2.trans h.2⟩) (fun W l o o' hl ho hc _ => ⟨belowK_b (w := (((w3.alloc (.cells #[.int .i64 (-1)] 3)).alloc (.cells #[.slice (some ⟨b, off, none⟩) n c] 22)).alloc (.cells #[.slice q m d] 31))) (by simp; omega) W l o o' hl ho hc (by assumption), (belowK_b (n₀ := w3.heap.size + 3) (w := (((w3.alloc (.cells #[.int .i64 (-1)] 3)).alloc (.cells #[.slice (some ⟨b, off, none⟩) n c] 22)).alloc (.cells #[.slice q m d] 31))) (by simp) W l o o' hl ho hc (by assumption)).cell (p := ⟨w3.heap.size + 1 + 1, 0, none⟩) (by simp)⟩) (Below.refl _ _) (fun _ => rfl)
    (fun pre W => (W.cell? ⟨w3.heap.size, 0, none⟩ = some (.int .i64 (lastI pre)) /\ W.frozen? ⟨w3.heap.size, 0, none⟩ = false) /\ Below w.heap.size w W)
    (fun _ _ _ => False)
    (OwnFrom.and (Own.from (fun s A B row hs hg hr => ⟨cell_kept hs.1 hg hr, (frozen_kept hs.1 hg hr).trans hs.2⟩) _) (ownFrom_below (Nat.le_refl _) (by simp; omega)))
    (fun _ _ _ _ _ hs _ _ => hs)
    ⟨⟨((bR.alloc _).alloc _).cell, ((bR.alloc _).alloc _).frozen⟩, hB0⟩
    (fun x => { tmps := #[.slice (some ⟨b, off, none⟩) n c, .agg #[.bool b0, .slice q m d], undef, .pointer (some ⟨w.heap.size, 0, none⟩), .int .i64 0, .pointer (some ⟨w3.heap.size, 0, none⟩), .int .i64 (x : Nat),
      .slice (some ⟨b, off, none⟩) n c, .bool true, .bool false, .bool false, .agg #[.bool b0, .slice q m d], .bool true, .bool false, .bool false, .slice (some ⟨b, off, none⟩) n c, .pointer (some ⟨w.heap.size, 1, none⟩), .slice q m d,
      .func (.func 92) #[] #[.pointer (some ⟨w3.heap.size + 1, 0, none⟩), .pointer (some ⟨w3.heap.size + 1 + 1, 0, none⟩)], .int .i64 (x : Nat), .agg #[.int .i64 (stepFrom (l.getD x [])), .bool (t x).1, .slice (t x).2.1 (t x).2.2.1 (t x).2.2.2.1, .int .i64 (t x).2.2.2.2], undef, undef], defers := [] }) ?assign ?body ?done ?stop
  case assign =>
    intro l' x W Kk hK
    gi_wp2_with (simp [Oper.semAt_some, go_sem])
    exact hK
  case body =>
    rintro l' pre x W ⟨⟨hcr, hfr⟩, hB⟩ _
    gi_wp2_with (simp [Oper.semAt_some, go_sem, hcr, hfr])
    refine ⟨(KeepsOthers.setCell _ _ _).from _, ⟨(Below.refl w.heap.size W).setCell (p := ⟨w3.heap.size, 0, none⟩) hle3 _, cell_setCell_ne (show w3.heap.size + 1 + 1 ≠ w3.heap.size by omega)⟩, ⟨by rw [lastI_snoc]; exact World.cell?_setCell_same' _ _ _ (by rw [hcr]; rfl), by rw [World.frozen?_setCell]; exact hfr⟩, hB.setCell (p := ⟨w3.heap.size, 0, none⟩) hle3 _⟩
  case done =>
    rintro D ys W hD rfl ⟨⟨hcr, hfr⟩, hB⟩ hK'
    gi_wp2
    refine ⟨by simp, .inl ⟨_, _, rfl, run_takeDeferred hK', ?_⟩⟩
    exact ⟨_, results_tmp rfl _ _ _, _, rfl, by rw [<- lastLe_range hln hK (fun j hj => by simpa using hK1 j hj) (fun hKn => by simpa using hK2 hKn) hn1 hz0 hall]; rfl, hB.trans (belowK_b (w := w) (Nat.le_refl _) W D _ _ (by simp at hD; omega) hK' rfl rfl)⟩
  case stop =>
    rintro D c' pre W hD _ hf _
    exact hf.elim
end Go.Proofs.YtgbknjdjbahdkaaGreatDoor
namespace Go.Proofs.YtgbknjdjbahdkaaGreatDoor.Sx
open Go Go.RowKit
def noDefer : Op -> Bool
  | .defer _ => false
  | _ => true
def plainC : Code -> Bool
  | .region _ ops _ => ops.toList.all fun o => noDefer o.op
  | .seq a b => plainC a && plainC b
  | .cond _ a b => plainC a && plainC b
  | .block _ c => plainC c
  | .loop c => plainC c
  | .scope _ => false
  | .rangeFunc _ _ _ _ => false
  | _ => true
def rfBody : Code -> Option Code
  | .rangeFunc _ _ _ b => some b
  | .seq a b => match rfBody a with
    | some x => some x
    | none => rfBody b
  | .cond _ a b => match rfBody a with
    | some x => some x
    | none => rfBody b
  | .block _ c => rfBody c
  | _ => none
section
variable {P : Program} {N n l : Nat}
theorem op_round {o : Oper} {a : Act} {w : World} {K : Act -> World -> Prop} {Q : Exit -> Act -> World -> Prop} (hd : noDefer o.op = true) (hQ : ¬ LetsOut Q) (h : o.wp P a w K Q) : o.wpIn (Fence.wide.inRound l) n P a w K Q := by
  refine ⟨fun f _ => trivial, ?_⟩
  have hs : o.semAt (Fence.wide.inRound l).round a.eval = execOp a.eval o := by
    refine Oper.semAt_eq _ _ _ (fun c e => ?_)
    rw [e] at hd; cases hd
  rw [hs]
  unfold Oper.wp at h
  revert h
  generalize (execOp a.eval o).run P w = r
  intro h
  match r, h with
  | .ok (.value v) w', h => exact h
  | .ok .skip w', h => exact h
  | .ok (.defer d) w', h => exact h
  | .ok (.enter f args) w', h => exact ⟨fun e => by simp [Fence.wide, Fence.inRound] at e, CallsIn.inRound l (callsIn_wide.2 h)⟩
  | .ok (.row row args) w', h =>
    refine ⟨fun e => by simp [Fence.wide, Fence.inRound] at e, fun c cs _ => ?_⟩
    obtain ⟨v, w2, r, s⟩ := h c cs
    refine ⟨v, w2, r, ?_⟩
    exact stepsIn_wide.2 s
  | .halt (.panic v) w', h => exact h
theorem wpOp_round {ops : Array Oper} {i : Nat} {a : Act} {w : World} {K K' : Act -> World -> Prop} {Q : Exit -> Act -> World -> Prop} (hd : ∀ o ∈ ops.toList, noDefer o.op = true) (hQ : ¬ LetsOut Q) (hK : ∀ a w, K a w -> K' a w) (h : wpOp P ops Q i K a w) : wpOpIn (Fence.wide.inRound l) n P ops Q i K' a w := by
  unfold wpOp at h
  unfold wpOpIn
  cases ho : ops[i]? with
  | none => rw [ho] at h; exact hK _ _ h
  | some o =>
    rw [ho] at h
    simp only at h ⊢
    split
    · rename_i hw
      rw [if_pos hw] at h
      rcases h with h | h
      · have hm : o ∈ ops.toList := by
          have := (Array.getElem?_eq_some_iff.1 ho).2
          rw [<- this]; exact Array.getElem_mem_toList _
        exact Oper.wpIn_mono hK (op_round (hd o hm) hQ h)
      · exact absurd h.2 hQ
    · rename_i hw
      rw [if_neg hw] at h
      exact ⟨fun _ _ => trivial, hK _ _ h⟩
theorem ops_round {ops : Array Oper} {Q : Exit -> Act -> World -> Prop} (hd : ∀ o ∈ ops.toList, noDefer o.op = true) (hQ : ¬ LetsOut Q) : ∀ (R : List Nat) (a : Act) (w : World), wpOps P ops Q R a w -> wpOpsIn (Fence.wide.inRound l) n P ops Q R a w
  | [], a, w, h => h
  | i :: R, a, w, h => by
    rw [wpOps_cons] at h
    rw [wpOpsIn_cons]
    exact wpOp_round hd hQ (fun a w h => ops_round hd hQ R a w h) h
theorem any_round {md : Region.Mode} {ops : Array Oper} {Q : Exit -> Act -> World -> Prop} (hd : ∀ o ∈ ops.toList, noDefer o.op = true) (hQ : ¬ LetsOut Q) : ∀ (fuel : Nat) (listed : Array Bool) (a : Act) (w : World), wpAny P md ops Q fuel listed a w -> wpAnyIn (Fence.wide.inRound l) n P md ops Q fuel listed a w
  | 0, listed, a, w, h => h
  | fuel + 1, listed, a, w, h => ⟨h.1, fun i hi => wpOp_round hd hQ (fun a w h => any_round hd hQ fuel _ a w h) (h.2 i hi)⟩
theorem nd_of {id : Nat} {ops : Array Oper} {d : Bool} (h : plainC (.region id ops d) = true) : ∀ o ∈ ops.toList, noDefer o.op = true := by
  unfold plainC at h
  rw [List.all_eq_true] at h
  exact h
theorem out_then {K : Act -> World -> Prop} {Q : Exit -> Act -> World -> Prop} (h : ¬ LetsOut Q) : ¬ LetsOut (Exit.then K Q) := fun ⟨a, w, k⟩ => h ⟨a, w, k⟩
theorem out_block {id : Nat} {Q : Exit -> Act -> World -> Prop} (h : ¬ LetsOut Q) : ¬ LetsOut (Exit.inBlock id Q) := fun ⟨a, w, k⟩ => h ⟨a, w, k⟩
theorem wpIn_of_semA : ∀ (c : Code) (Q : QF) (Q' : Exit -> Act -> World -> Prop) (φ : Fr) (a : Act) (w : World), Fits N φ a -> (∀ e φ' a' w', Fits N φ' a' -> Q e φ' w' -> Q' e a' w') ->
    plainC c = true -> ¬ LetsOut Q' -> semA P N c Q φ w -> c.wpIn (Fence.wide.inRound l) n P Q' a w
  | .skip, Q, Q', φ, a, w, hf, hQ, hp, ho, h => wpIn_skip (hQ _ _ _ _ hf h)
  | .region id ops draw, Q, Q', φ, a, w, hf, hQ, hp, ho, h => by
    cases draw with
    | false =>
      simp only [semA] at h
      refine wpIn_region (ops_round (nd_of hp) ho _ _ _ ?_)
      cases hpn : panOf ops with
      | none => rw [hpn] at h; exact ops_of_sqP (fun φ a w hf hk => hQ _ _ _ _ hf hk) _ φ a w hf h
      | some x =>
        rw [hpn] at h
        obtain ⟨o, ho', hg, hop, hr⟩ := pan_ops hpn
        rw [hr]
        refine ops_of_sqPT (fun φ a w hf hk => ?_) _ φ a w hf h
        rw [wpOps_cons]
        unfold wpOp
        rw [ho']
        simp only
        rw [wantS_eq hf, if_pos (by unfold wantS; rw [hg])]
        refine .inl ?_
        unfold Oper.wp
        rw [hf.eval]
        unfold panQ at hk
        split at hk
        · rename_i t v he
          rw [run_panicS hop he]
          exact hQ _ _ _ _ hf hk
        · exact hk.elim
    | true =>
      obtain ⟨hm, h⟩ := h
      refine wpIn_region_any hm (any_round (nd_of hp) ho _ _ _ _ ?_)
      rcases h with ⟨hg, h⟩ | ⟨hg, h⟩
      case inr =>
        simp only [goodF, Bool.and_eq_true, List.all_eq_true, List.mem_range, List.any_eq_true] at hg
        obtain ⟨⟨⟨⟨⟨g1, g2⟩, g3⟩, g4⟩, g5⟩, g6⟩ := hg
        have hsel : ∀ (j : Nat) (o : Oper), ops[j]? = some o -> notSel o = true /\ ∀ e ∈ o.after.toList, Region.binds .any e = true -> e.on < j := by
          intro j o ho
          have := g1 j (Array.getElem?_eq_some_iff.1 ho).1
          rw [ho] at this
          simp only [Bool.and_eq_true, List.all_eq_true, Bool.or_eq_true, Bool.not_eq_true'] at this
          refine ⟨this.1, fun e he hb => ?_⟩
          rcases this.2 e he with h | h
          · rw [hb] at h; cases h
          · simpa [Nat.blt_eq] using h
        have hfo : ∀ i ∈ flo P ops, ∃ o x, ops[i]? = some o /\ fobj P o = some x := by
          intro i hi
          have := g2 i hi
          split at this
          · rename_i x hx
            obtain ⟨o, ho, hx⟩ := Option.bind_eq_some_iff.1 hx
            exact ⟨o, x, ho, hx⟩
          · cases this
        obtain ⟨S, h⟩ := h
        refine any_of_dF (S := S) (fun j o ho => (hsel j o ho).1) (fun j o ho => (hsel j o ho).2) hfo (K := Q .normal) (fun φ a w hf hk => hQ _ _ _ _ hf hk) _ (piF P ops) _ (fun _ => w.drew) _ φ a w.drew (Nat.eq_of_beq_eq_true g3) (by simp) (pairsB_spec g6) ?_ (by simp) ?_ ?_ hf ?_ h
        · intro i
          constructor
          · intro hi
            have hlt : i < ops.size := by have := g5 i hi; simpa [Nat.blt_eq] using this
            exact ⟨hlt, by simp [hlt]⟩
          · intro hi
            obtain ⟨x, hx, hb⟩ := g4 i hi.1
            rw [Nat.eq_of_beq_eq_true hb]; exact hx
        · intro i k _ hk
          have := (List.getElem?_eq_some_iff.1 (fidx_spec hk)).1
          simp [this]
        · intro k o ho hl
          have hk : k < ops.size := (Array.getElem?_eq_some_iff.1 ho).1
          simp [hk] at hl
        · intro i _ o _ _; exact EX.refl _ _
      obtain ⟨S, h⟩ := h
      refine any_of_drP hg (S := S) (K := fun _ => Q .normal) (fun _ φ a w hf hk => hQ _ _ _ _ hf hk) _ (List.range ops.size) _ (fun _ => w.drew) φ a w.drew (by simp) (by simp) List.pairwise_lt_range ?_ ?_ hf ?_ h
      · intro i
        simp only [List.mem_range]
        constructor
        · intro hi; exact ⟨hi, by simp [hi]⟩
        · exact fun h => h.1
      · intro k o ho hl
        have hk : k < ops.size := (Array.getElem?_eq_some_iff.1 ho).1
        simp [hk] at hl
      · intro i _ o _ _; exact EX.refl _ _
  | .seq x y, Q, Q', φ, a, w, hf, hQ, hp, ho, h => by
    rw [plainC, Bool.and_eq_true] at hp
    refine wpIn_seq (wpIn_of_semA x _ _ φ a w hf (fun e φ' a' w' hf' hq => ?_) hp.1 (out_then ho) h)
    cases e with
    | normal => exact wpIn_of_semA y Q Q' φ' a' w' hf' hQ hp.2 ho hq
    | _ => exact hQ _ _ _ _ hf' hq
  | .cond c x y, Q, Q', φ, a, w, hf, hQ, hp, ho, h => by
    obtain ⟨b, hb, h1, h2⟩ := h
    rw [plainC, Bool.and_eq_true] at hp
    refine wpIn_cond_split (t := b) (by rw [hf.eval]; exact hb) (fun e => wpIn_of_semA x Q Q' φ a w hf hQ hp.1 ho (h1 e)) (fun e => wpIn_of_semA y Q Q' φ a w hf hQ hp.2 ho (h2 e))
  | .block id c, Q, Q', φ, a, w, hf, hQ, hp, ho, h => by
    refine wpIn_block (wpIn_of_semA c _ _ φ a w hf (fun e φ' a' w' hf' hq => ?_) hp (out_block ho) h)
    cases e with
    | exit id' =>
      simp only [blockQ] at hq
      simp only [Exit.inBlock]
      by_cases hid : id' = id
      · subst hid
        rw [if_pos rfl]
        have : Nat.beq id' id' = true := by simp
        rw [this] at hq
        exact hQ _ _ _ _ hf' hq
      · rw [if_neg hid]
        have : Nat.beq id' id = false := by
          cases hb : Nat.beq id' id with
          | false => rfl
          | true => exact absurd (Nat.eq_of_beq_eq_true hb) hid
        rw [this] at hq
        exact hQ _ _ _ _ hf' hq
    | _ => exact hQ _ _ _ _ hf' hq
  | .loop c, Q, Q', φ, a, w, hf, hQ, hp, ho, h => by
    obtain ⟨J, μ, h0, hr⟩ := h
    refine wpIn_loop (fun a w => ∃ ψ, Fits N ψ a /\ J ψ w /\ ∀ n, n ∉ dstsOf c -> ψ n = φ n) (fun a w => μ (fun n => a.tmps.getD n undef) w) ⟨φ, hf, h0, fun _ _ => rfl⟩ ?_
    intro a1 w1 ⟨ψ, hf1, hJ, hψ⟩
    have eqf : ∀ {ψ : Fr} {a : Act}, Fits N ψ a -> (fun n => a.tmps.getD n undef) = ψ := fun hf => funext hf.get
    have hb := hr ψ w1 hJ hψ
    have hb2 : semA P N c (fun e φ' w' => (∀ n, n ∉ dstsOf c -> φ' n = ψ n) /\ thenQ (fun φ' w' => J φ' w' /\ μ φ' w' < μ ψ w1) Q e φ' w') ψ w1 :=
      semA_frame c _ _ ψ w1 (fun e φ' w' hfr hq => ⟨hfr, hq⟩) hb
    refine wpIn_of_semA c _ _ ψ a1 w1 hf1 (fun e φ' a' w' hf' hq => ?_) hp (out_then ho) hb2
    obtain ⟨hfr, hq⟩ := hq
    cases e with
    | normal =>
      refine ⟨⟨φ', hf', hq.1, fun n hn => by rw [hfr n hn, hψ n hn]⟩, ?_⟩
      rw [eqf hf', eqf hf1]
      exact hq.2
    | _ => exact hQ _ _ _ _ hf' hq
  | .exit id, Q, Q', φ, a, w, hf, hQ, hp, ho, h => wpIn_exit (hQ _ _ _ _ hf h)
  | .ret, Q, Q', φ, a, w, hf, hQ, hp, ho, h => wpIn_ret (hQ _ _ _ _ hf h)
  | .label _, Q, Q', φ, a, w, hf, hQ, hp, ho, h => wpIn_label (hQ _ _ _ _ hf h)
  | .goto _, _, _, _, _, _, _, _, _, _, hs => hs.elim
  | .scope _, _, _, _, _, _, _, _, hp, _, _ => by simp [plainC] at hp
  | .rangeFunc _ _ _ _, _, _, _, _, _, _, _, _, _, hs => hs.elim
  | .refuse _, _, _, _, _, _, _, _, _, _, hs => hs.elim
def bodyQN (R : Value -> World -> Prop) : QF
  | .normal, φ, w => R undef w
  | _, _, _ => False
def bsem (P : Program) (fn : Func) (car : Nat -> List (Nat × VS)) (args : List Value) (R : Value -> World -> Prop) (w : World) : Prop :=
  match fn.body.bind rfBody with
  | some c => sem P fn.ntmps car c (bodyQN R) (initF args) w
  | none => False
theorem fits_tmps {N : Nat} {vs : List Value} (h : vs.length = N) : Fits N (initF vs) { tmps := ⟨vs⟩, defers := [] } := by
  refine ⟨by simpa using h, fun n => ?_, rfl⟩
  simp [initF, Array.getD_eq_getD_getElem?, List.getD_eq_getElem?_getD]
theorem wpIn_of_bsem {fn : Func} {c : Code} {car : Nat -> List (Nat × VS)} {args : List Value} {R : Value -> World -> Prop} {w : World} {Q' : Exit -> Act -> World -> Prop}
    (hb : fn.body.bind rfBody = some c) (hlen : args.length = fn.ntmps) (hp : plainC c = true) (ho : ¬ LetsOut Q') (hR : ∀ a w, R undef w -> Q' .normal a w) (h : bsem P fn car args R w) :
    c.wpIn (Fence.wide.inRound l) n P Q' { tmps := ⟨args⟩, defers := [] } w := by
  unfold bsem at h
  rw [hb] at h
  refine wpIn_of_semA c (bodyQN R) Q' (initF args) _ w (fits_tmps hlen) (fun e φ a w' _ hq => ?_) hp ho (semA_of_sem c _ _ _ h)
  cases e with
  | normal => exact hR _ _ hq
  | _ => exact hq.elim
end
end Go.Proofs.YtgbknjdjbahdkaaGreatDoor.Sx
namespace Go.Proofs.YtgbknjdjbahdkaaGreatDoor
open Go Go.Proofs.YtgbknjdjbahdkaaGreatDoor.Sx
set_option maxRecDepth 100000
def impl_FeeExact_body_j0 (q6 q7 q9 : Nat) (a0 : Option Addr) (a1 a2 : Nat) (W : World) (R : Value -> World -> Prop) : Prop :=
 ∃ a3, Loads P 3 ((⟨q9, 0, none⟩ : Addr).add 0) (.int .i64 a3) W /\ Calls P 48 ⟨[.int .i64 a3]⟩ W fun a4 a5 =>
 ∃ a6 a7 a8, a4 = .returned (.slice a6 a7 a8) /\
 Calls P 49 ⟨[.slice a0 a1 a2, .slice a6 a7 a8]⟩ a5 fun a9 aa =>
 ∃ ab ac ae, a9 = .returned (.slice ab ac ae) /\
 ∀ r af, New aa (.cells ⟨[.int .i64 1]⟩ 3 (0, 0)) r af ->
 ∀ ag ah, New af (.cells ⟨[.bool false, .slice none 0 0, .slice none 0 0]⟩ 35 (0, 0)) ag ah ->
 ∃ wv_7, Stores P 35 ⟨ag, 0, none⟩ (.agg #[.bool false, .slice ab ac ae, (.slice (some ⟨r, 0, none⟩) 1 1)]) ah wv_7 /\
 ∃ ai aj ak al am an ao, (∀ wv_8, Ext wv_7.drew wv_8 -> Loads P 35 ⟨ag, 0, none⟩ (.agg #[.bool ai, .slice aj ak al, .slice am an ao]) wv_8) /\ ∃ ap aq ar au av, (∀ wv_9, Ext wv_7.drew wv_9 -> Loads P 46 ((⟨q9, 0, none⟩ : Addr).add 1) (.agg #[.bool ap, .slice aq ar au, .int .i64 av]) wv_9) /\ ∀ (ss : List (Option Nat)) (aw : World), Fl [.cells ⟨[.bool false, .slice none 0 0, .slice none 0 0]⟩ 35 (0, 0)] [none] wv_7.drew ss aw ->
 Calls P 19 ⟨[.agg #[.bool ap, .slice aq ar au, .int .i64 av]]⟩ aw fun ax ay =>
 ∃ az b0 b1 b2 b3 b4 b5, ax = .returned (.agg #[.bool az, .slice b0 b1 b2, .slice b3 b4 b5]) /\
 Ext aw ay /\ ∀ (ss_1 : List (Option Nat)) (b6 : World), Fl [.cells ⟨[.bool false, .slice none 0 0, .slice none 0 0]⟩ 35 (0, 0)] ss ay ss_1 b6 ->
 Calls P 50 ⟨[.agg #[.bool ai, .slice aj ak al, .slice am an ao], .agg #[.bool az, .slice b0 b1 b2, .slice b3 b4 b5]]⟩ b6 fun b7 b8 =>
 ∃ b9 ba bb bc bd be bf bg, b7 = .returned (.tuple #[.agg #[.bool b9, .slice ba bb bc, .slice bd be bf], .bool bg]) /\
 ∀ (ss_2 : List (Option Nat)) (bh : World) (bi : Nat), Fl [.cells ⟨[.bool false, .slice none 0 0, .slice none 0 0]⟩ 35 (0, 0)] ss_1 b8 ss_2 bh -> ss_2[0]? = some (some bi) ->
 ∃ wv_15, Stores P 35 ⟨bi, 0, none⟩ (.agg #[.bool b9, .slice ba bb bc, .slice bd be bf]) bh wv_15 /\
 ∃ bj bk bl bm bn bo bp, Loads P 35 ⟨q6, 0, none⟩ (.agg #[.bool bj, .slice bk bl bm, .slice bn bo bp]) wv_15 /\ ∃ bq br bs bt bu bv bw, Loads P 35 ⟨bi, 0, none⟩ (.agg #[.bool bq, .slice br bs bt, .slice bu bv bw]) wv_15 /\ Calls P 27 ⟨[.agg #[.bool bj, .slice bk bl bm, .slice bn bo bp], .agg #[.bool bq, .slice br bs bt, .slice bu bv bw]]⟩ wv_15 fun bx bz =>
 ∃ c0 c1 c2 c3 c4 c5 c6 c7, bx = .returned (.tuple #[.agg #[.bool c0, .slice c1 c2 c3, .slice c4 c5 c6], .bool c7]) /\
 ∀ c8 c9, New bz (.cells ⟨[.bool false, .slice none 0 0, .slice none 0 0]⟩ 35 (0, 0)) c8 c9 ->
 ∃ wv_18, Stores P 35 ⟨c8, 0, none⟩ (.agg #[.bool c0, .slice c1 c2 c3, .slice c4 c5 c6]) c9 wv_18 /\
 ∃ ca cb cc cd ce cf cg, Loads P 35 ⟨c8, 0, none⟩ (.agg #[.bool ca, .slice cb cc cd, .slice ce cf cg]) wv_18 /\ ∃ ch, Loads P 4 ⟨q7, 0, none⟩ (.bool ch) wv_18 /\ (ch = true ->
 (bg = true ->
 ∃ wv_19, Stores P 35 ⟨q6, 0, none⟩ (.agg #[.bool ca, .slice cb cc cd, .slice ce cf cg]) wv_18 wv_19 /\
 ∃ wv_20, Stores P 4 ⟨q7, 0, none⟩ (.bool c7) wv_19 wv_20 /\
 R undef wv_20) /\
 (bg = false ->
 ∃ wv_21, Stores P 35 ⟨q6, 0, none⟩ (.agg #[.bool ca, .slice cb cc cd, .slice ce cf cg]) wv_18 wv_21 /\
 ∃ wv_22, Stores P 4 ⟨q7, 0, none⟩ (.bool false) wv_21 wv_22 /\
 R undef wv_22)) /\
 (ch = false ->
 (false = true ->
 ∃ wv_23, Stores P 35 ⟨q6, 0, none⟩ (.agg #[.bool ca, .slice cb cc cd, .slice ce cf cg]) wv_18 wv_23 /\
 ∃ wv_24, Stores P 4 ⟨q7, 0, none⟩ (.bool c7) wv_23 wv_24 /\
 R undef wv_24) /\
 (false = false ->
 ∃ wv_25, Stores P 35 ⟨q6, 0, none⟩ (.agg #[.bool ca, .slice cb cc cd, .slice ce cf cg]) wv_18 wv_25 /\
 ∃ wv_26, Stores P 4 ⟨q7, 0, none⟩ (.bool false) wv_25 wv_26 /\
 R undef wv_26))
def impl_FeeExact_body (q2 q3 : Nat) (q6 q7 : Nat) (i8 : Int) (q9 : Nat) (z : Nat -> Value) (w : World) (R : Value -> World -> Prop) : Prop :=
 ∃ a0 a1 a2, Loads P 31 ((⟨q3, 0, none⟩ : Addr).add 1) (.slice a0 a1 a2) w /\ ∃ a3 : Int, a3 = IntKind.wrap .i64 (i8 + 1) /\ ∃ a4 a5 a6, Loads P 22 ⟨q2, 0, none⟩ (.slice a4 a5 a6) w /\ ((decide ((a3 : Int) < ((a5 : Nat) : Int))) = true ->
 ∃ a7 a8 a9, Loads P 22 ⟨q2, 0, none⟩ (.slice a7 a8 a9) w /\ ∃ aa : Int, aa = IntKind.wrap .i64 (i8 + 1) /\ (0 <= (aa : Int) /\ (aa : Int) < (a8 : Nat)) /\ ptrS a7 fun ad => ∃ ab, Loads P 3 ((ad.add (aa.toNat * 4)).add 0) (.int .i64 ab) w /\ Calls P 48 ⟨[.int .i64 ab]⟩ w fun e wv =>
 ∃ ac ae af, e = .returned (.slice ac ae af) /\
 Calls P 47 ⟨[.slice ac ae af, .slice a0 a1 a2]⟩ wv fun ag ah =>
 ∃ ai, ag = .returned (.int .i64 ai) /\
 ((decide ((ai : Int) < 0)) = true ->
 ∃ aj ak al, Loads P 22 ⟨q2, 0, none⟩ (.slice aj ak al) ah /\ ∃ am : Int, am = IntKind.wrap .i64 (i8 + 1) /\ (0 <= (am : Int) /\ (am : Int) < (ak : Nat)) /\ ptrS aj fun an => ∃ ao, Loads P 3 ((an.add (am.toNat * 4)).add 0) (.int .i64 ao) ah /\ Calls P 48 ⟨[.int .i64 ao]⟩ ah fun ap aq =>
 ∃ ar au av, ap = .returned (.slice ar au av) /\
 impl_FeeExact_body_j0 q6 q7 q9 ar au av aq R) /\
 ((decide ((ai : Int) < 0)) = false ->
 impl_FeeExact_body_j0 q6 q7 q9 a0 a1 a2 ah R)) /\
 ((decide ((a3 : Int) < ((a5 : Nat) : Int))) = false ->
 (false = true ->
 ∃ aw ax ay, Loads P 22 ⟨q2, 0, none⟩ (.slice aw ax ay) w /\ ∃ az : Int, az = IntKind.wrap .i64 (i8 + 1) /\ (0 <= (az : Int) /\ (az : Int) < (ax : Nat)) /\ ptrS aw fun b0 => ∃ b1, Loads P 3 ((b0.add (az.toNat * 4)).add 0) (.int .i64 b1) w /\ Calls P 48 ⟨[.int .i64 b1]⟩ w fun b2 b3 =>
 ∃ b4 b5 b6, b2 = .returned (.slice b4 b5 b6) /\
 impl_FeeExact_body_j0 q6 q7 q9 b4 b5 b6 b3 R) /\
 (false = false ->
 impl_FeeExact_body_j0 q6 q7 q9 a0 a1 a2 w R))
theorem impl_FeeExact_body_eq (q2 : Nat) (q3 : Nat) (q6 : Nat) (q7 : Nat) (i8 : Int) (q9 : Nat) (z : Nat -> Value) (w : World) (R : Value -> World -> Prop) : impl_FeeExact_body q2 q3 q6 q7 i8 q9 z w R = bsem P Tryz.f12 (fun k => []) [(z 0), (z 1), (.pointer (some ⟨q2, 0, none⟩)), (.pointer (some ⟨q3, 0, none⟩)), (z 4), (z 5), (.pointer (some ⟨q6, 0, none⟩)), (.pointer (some ⟨q7, 0, none⟩)), (.int .i64 i8), (.pointer (some ⟨q9, 0, none⟩)), (z 10), (z 11), (z 12), (z 13), (z 14), (z 15), (z 16), (z 17), (z 18), (z 19), (z 20), (z 21), (z 22), (z 23), (z 24), (z 25), (z 26), (z 27), (z 28), (z 29), (z 30), (z 31), (z 32), (z 33), (z 34), (z 35), (z 36), (z 37), (z 38), (z 39), (z 40), (z 41), (z 42), (z 43), (z 44), (z 45), (z 46), (z 47), (z 48), (z 49), (z 50), (z 51), (z 52), (z 53), (z 54), (z 55), (z 56), (z 57), (z 58), (z 59), (z 60), (z 61), (z 62), (z 63), (z 64), (z 65), (z 66), (z 67), (z 68), (z 69), (z 70), (z 71), (z 72), (z 73), (z 74), (z 75), (z 76), (z 77), (z 78), (z 79), (z 80), (z 81), (z 82), (z 83), (z 84), (z 85), (z 86), (z 87), (z 88), (z 89), (z 90), (z 91), (z 92), (z 93), (z 94), (z 95), (z 96), (z 97)] R w := by kernel_rfl
end Go.Proofs.YtgbknjdjbahdkaaGreatDoor
namespace Go.Proofs.YtgbknjdjbahdkaaGreatDoor
open Go Go.Proofs.YtgbknjdjbahdkaaGreatDoor.Sx
def rateM : List D0 -> Nat
  | [_, _, .ints z, _] => (val z).toNat
  | _ => 0
def rateT : List D0 -> Nat
  | [_, _, _, .int s] => s.toNat
  | _ => 0
def endOf (l : List (List D0)) (v : Int) (j : Nat) : Int := if j + 1 < l.length /\ stepFrom (l.getD (j + 1) []) < v then stepFrom (l.getD (j + 1) []) else v
def feeV (l : List (List D0)) (v : Int) (j : Nat) : Nat := (endOf l v j - stepFrom (l.getD j [])).toNat * rateM (l.getD j []) * 10 ^ (30 - rateT (l.getD j []))
def feeSum (l : List (List D0)) (v : Int) (xs : List Nat) : Nat := (xs.map (feeV l v)).sum
def feeT (l : List (List D0)) : List D0 -> Bool × List D0
  | [.bool b, .ints z] => if stepsOk l && intOk [.bool b, .ints z] && decide (z.length <= 4) then (true, redR ((feeSum l (val z) (List.range (lastLe l (val z) l.length + 1).toNat) : Nat) : Int) (10 ^ 30)) else (false, rat0)
  | _ => (false, rat0)
theorem feeSum_snoc (l : List (List D0)) (v : Int) (xs : List Nat) (x : Nat) : feeSum l v (xs ++ [x]) = feeSum l v xs + feeV l v x := by simp [feeSum]
theorem step_row {l : List (List D0)} (hall : ∀ i < l.length, stepOk l i = true) (hc : ∀ x ∈ l, x.map D0.code = [.int, .bool, .ints, .int]) {x : Nat} (hx : x < l.length) :
    ∃ F m t : Nat, l[x] = [.int (F : Int), .bool false, .ints (digs m), .int (t : Int)] /\ l.getD x [] = [.int (F : Int), .bool false, .ints (digs m), .int (t : Int)] /\ F <= 1000000000 /\ m < 1000000000 /\ t <= 30 /\ stepFrom (l.getD x []) = F /\ rateM (l.getD x []) = m /\ rateT (l.getD x []) = t := by
  have h := hall x hx
  have hg := getD_lt (d := []) hx
  have hcode := hc _ (List.getElem_mem hx)
  simp only [stepOk, Bool.and_eq_true, decide_eq_true_eq] at h
  obtain ⟨⟨⟨h0, h1⟩, h2⟩, _⟩ := h
  rw [hg] at h0 h1 h2 ⊢
  obtain ⟨a, es, he, c1⟩ := code_int hcode
  obtain ⟨b, es2, he2, c2⟩ := code_bool (by rw [he] at hcode; exact c1)
  obtain ⟨z, es3, he3, c3⟩ := code_ints c2
  obtain ⟨s, es4, he4, c4⟩ := code_int c3
  have := code_nil c4
  subst this
  rw [he, he2, he3, he4] at h0 h1 h2 ⊢
  simp only [stepFrom, List.drop_succ_cons, List.drop_zero] at h0 h1 h2
  obtain ⟨m, t, rfl, rfl, rfl, ht, em, et, hm⟩ := taxOk_nn h2
  obtain ⟨F, rfl⟩ : ∃ F : Nat, a = F := ⟨a.toNat, by omega⟩
  exact ⟨F, m, t, rfl, rfl, by omega, hm, ht, rfl, em, et⟩
theorem endOf_le (l : List (List D0)) (v : Int) (j : Nat) : endOf l v j <= v := by
  unfold endOf
  split <;> omega
theorem fee_bound {l : List (List D0)} (hall : ∀ i < l.length, stepOk l i = true) (hc : ∀ x ∈ l, x.map D0.code = [.int, .bool, .ints, .int]) {v : Int} (hv : v < 1000000000000000000000000000000000000) {x : Nat} (hx : x < l.length) :
    feeV l v x <= 1000000000000000000000000000000000000 * 1000000000 * 1000000000000000000000000000000 := by
  obtain ⟨F, m, t, _, _, hF, hm, ht, e1, e2, e3⟩ := step_row hall hc hx
  have he := endOf_le l v x
  unfold feeV
  rw [e1, e2, e3]
  have h1 : (endOf l v x - (F : Int)).toNat <= 1000000000000000000000000000000000000 := by omega
  have h2 : 10 ^ (30 - t) <= 10 ^ 30 := Nat.pow_le_pow_right (by decide) (by omega)
  exact Nat.mul_le_mul (Nat.mul_le_mul h1 (by omega)) h2
theorem feeSum_bound {l : List (List D0)} (hall : ∀ i < l.length, stepOk l i = true) (hc : ∀ x ∈ l, x.map D0.code = [.int, .bool, .ints, .int]) {v : Int} (hv : v < 1000000000000000000000000000000000000) : ∀ (xs : List Nat), (∀ x ∈ xs, x < l.length) ->
    feeSum l v xs <= xs.length * (1000000000000000000000000000000000000 * 1000000000 * 1000000000000000000000000000000)
  | [], _ => by simp [feeSum]
  | x :: xs, h => by
    have h1 := fee_bound hall hc hv (h x List.mem_cons_self)
    have h2 := feeSum_bound hall hc hv xs (fun y hy => h y (List.mem_cons_of_mem _ hy))
    simp only [feeSum, List.map_cons, List.sum_cons, List.length_cons] at h2 ⊢
    omega
theorem fee_ok {V : Nat} (h : V <= 9 * (1000000000000000000000000000000000000 * 1000000000 * 1000000000000000000000000000000)) : redOk (V : Int) (10 ^ 30) = true /\ redR (V : Int) (10 ^ 30) = rmk (redN (V : Int) (10 ^ 30)) (redD (V : Int) (10 ^ 30)) /\ ratOk (rmk (redN (V : Int) (10 ^ 30)) (redD (V : Int) (10 ^ 30))) = true := by
  have h9 : (1000000000 : Nat) ^ 9 = 1000000000000000000000000000000000000000000000000000000000000000000000000000000000 := by decide
  have k0 : (digs V).length <= 9 := digs_len 9 (by omega)
  have k1 := redOk_small (n := (V : Int)) (d := 10 ^ 30) (by rw [Int.natAbs_natCast]; omega) (by have := ten_len (k := 30) (by decide); omega)
  have k2 := redR_yes k1
  have k3 := redR_ok (n := (V : Int)) (d := 10 ^ 30) (Nat.pow_pos (by decide)) k1
  rw [k2] at k3
  exact ⟨k1, k2, k3⟩
theorem impl_FeeExact_body_j0_n {W0 W : World} {B q6 q7 q9 : Nat} {ep : Option Addr} {en ec : Nat} {e F m t V : Nat} {dp : Option Addr} {dn dc : Nat} {cs : List Value} {f : List Nat}
    (hend : IntsR W ep en ec (digs e)) (he4 : (digs e).length <= 4) (hFe : F <= e) (hF : F <= 1000000000) (hm : m < 1000000000) (ht : t <= 30)
    (b6 : Blk W q6 T_impl_Rat cs) (b7 : Blk W q7 T_bool [.bool true]) (b9 : Blk W q9 T_impl_Step [.int .i64 (F : Int), .bool false, .slice dp dn dc, .int .i64 (t : Int)]) (hdi : IntsR W dp dn dc (digs m)) (h67 : q6 ≠ q7)
    (ho : Owns W B cs (redR (V : Int) (10 ^ 30)) f) (hB : B <= W.heap.size)
    (hV : V + (e - F) * m * 10 ^ (30 - t) <= 9 * (1000000000000000000000000000000000000 * 1000000000 * 1000000000000000000000000000000)) (hq : q6 < W.heap.size /\ q7 < W.heap.size) (hx0 : Ext W0 W) :
    impl_FeeExact_body_j0 q6 q7 q9 ep en ec W (fun _ W' => Chg [q6, q7] W0 W' /\ (∃ cs f, Blk W' q6 T_impl_Rat cs /\ Owns W' B cs (redR ((V + (e - F) * m * 10 ^ (30 - t) : Nat) : Int) (10 ^ 30)) f /\ f.Nodup) /\ Blk W' q7 T_bool [.bool true]) := by
  obtain ⟨v1, v2, v3⟩ := fee_ok (V := V) (by omega)
  obtain ⟨u1, u2, u3⟩ := fee_ok (V := (e - F) * m * 10 ^ (30 - t)) (by omega)
  obtain ⟨s1, s2, s3⟩ := fee_ok hV
  unfold impl_FeeExact_body_j0
  refine ⟨_, b9.loadAt 0 rfl (by kernel_rfl) rfl, ?_⟩
  refine Ret.at (impl_NatOf_c (n := (F : Int)) (by omega) (by omega)) ?_
  rintro v w1 ⟨p1, n1, c1, hv, ho1, y1⟩
  subst hv
  rw [Int.toNat_natCast] at ho1
  have i1 := ho1.ints
  have hl1 := i1.1; have hle := hend.1
  refine ⟨_, _, _, rfl, ?_⟩
  refine Ret.at (impl_natSub_c (hend.ext y1) i1 (digs_limbs _) (digs_limbs _) (by omega) (by have := digs_mono_len hFe; omega) (by rw [val_digs, val_digs]; omega)) ?_
  rintro v w2 ⟨p2, n2, c2, hv, ho2, y2⟩
  subst hv
  rw [show (val (digs e) - val (digs F)).toNat = e - F by rw [val_digs, val_digs]; omega] at ho2
  have hcl : (digs (e - F)).length <= 4 := Nat.le_trans (digs_mono_len (Nat.sub_le _ _)) he4
  have i2 := ho2.ints
  refine ⟨_, _, _, rfl, ?_⟩
  intro r w3 hn3 r1 w4 hn4
  have e3 := hn3.r_eq; have e4 := hn4.r_eq; have z3 := hn3.size; have z4 := hn4.size
  have l1 := y1.le; have l2 := y2.le
  have i3 : IntsR w3 (some ⟨r, 0, none⟩) 1 1 (digs 1) := by
    have hb := hn3.blk
    refine ⟨by rw [digs_one]; rfl, by omega, by omega, fun _ => ⟨r, 0, rfl, ?_⟩⟩
    rw [digs_one]
    exact hb.seg
  obtain ⟨w5, st5, bk5, y5⟩ := hn4.fill (P := P) (t := T_impl_Rat) (xs := [.bool false, .slice p2 n2 c2, .slice (some ⟨r, 0, none⟩) 1 1]) (by simp [Value.oneCell']) (by kernel_rfl) rfl
  have Y5 := ((y1.trans y2).trans hn3.ext).trans y5
  have D := Ext.drew w5
  have hcr : Reps w5 [.bool false, .slice p2 n2 c2, .slice (some ⟨r, 0, none⟩) 1 1] (rmk ((e - F : Nat) : Int) 1) := by
    have h0 : decide (((e - F : Nat) : Int) < 0) = false := decide_eq_false (by omega)
    have : rmk ((e - F : Nat) : Int) 1 = [.bool false, .ints (digs (e - F)), .ints (digs 1)] := by
      unfold rmk; rw [h0, Int.natAbs_natCast]
    rw [this]
    exact ⟨rfl, ⟨_, _, _, rfl, i2.ext (hn3.ext.trans y5)⟩, ⟨_, _, _, rfl, i3.ext y5⟩, trivial⟩
  have l5 := y5.le
  have lD := D.le
  refine ⟨w5, st5, _, _, _, _, _, _, _, fun W hW => ((bk5.ext D).ext hW).loadA0 (by kernel_rfl), _, _, _, _, _, fun W hW => (((b9.ext Y5).ext D).ext hW).loadAAt 1 [.bool false, .slice dp dn dc, .int .i64 (t : Int)] rfl (by kernel_rfl) rfl, ?_⟩
  intro ss w6 F1
  have S1 := (FlSt.start (o := .cells ⟨[.bool false, .slice none 0 0, .slice none 0 0]⟩ T_impl_Rat (0, 0)) w5.drew).step F1
  have hdr : Reps w6 [.bool false, .slice dp dn dc, .int .i64 (t : Int)] (dnn m (t : Int)) := ⟨rfl, ⟨_, _, _, rfl, hdi.ext ((Y5.trans D).trans S1.1)⟩, rfl, trivial⟩
  refine Ret.at (impl_DecRat_n hdr (Nat.le_trans (one_len hm) (by decide)) ht) ?_
  have hpow : 0 < 10 ^ t := Nat.pow_pos (by decide)
  have d1 := redOk_small (n := (m : Int)) (d := 10 ^ t) (by rw [Int.natAbs_natCast]; have := one_len hm; omega) (by have := ten_len ht; omega)
  have d2 := redR_yes d1
  have d3 := redR_ok hpow d1
  rw [d2] at d3
  rintro v w7 ⟨vs7, f7, hv, ho7, _, y7⟩
  subst hv
  rw [d2] at ho7
  obtain ⟨x0, xp, xn, xc, xz, xp2, xn2, xc2, xz2, rfl, _, _, _⟩ := open_Rat ho7.reps (rmk_code _ _)
  refine ⟨_, _, _, _, _, _, _, rfl, y7, ?_⟩
  intro ss1 w8 F2
  have S2 := (S1.ext y7).step F2
  refine Ret.at (impl_RatMul_n (hcr.ext (D.trans S2.1)) (ho7.reps.ext F2.ext) (rmk_int_ok (by rw [Int.natAbs_natCast]; omega)) d3) ?_
  rintro v w9 ⟨vs9, f9, hv, ho9, _, y9⟩
  subst hv
  obtain ⟨r1', r2'⟩ := red_dec (c := e - F) (m := m) ht
  rw [r1', u2] at ho9
  rw [r2', u1]
  obtain ⟨g0, gp, gn, gc', gz, gp2, gn2, gc2, gz2, rfl, _, _, _⟩ := open_Rat ho9.reps (rmk_code _ _)
  refine ⟨_, _, _, _, _, _, _, _, rfl, ?_⟩
  intro ss2 w10 r8 F4 G
  have S4 := (S2.ext y9).step F4
  obtain ⟨hr8, hbk⟩ := S4.get G
  have B8 : Blk w10 r8 T_impl_Rat [.bool false, .slice none 0 0, .slice none 0 0] := hbk
  obtain ⟨w11, st11, bk11, ch11, z11⟩ := B8.storeA0 (P := P) (t := T_impl_Rat) (xs := [.bool g0, .slice gp gn gc', .slice gp2 gn2 gc2]) (by kernel_rfl) rfl (by simp [Value.oneCell'])
  have hni := Owns.notin B8 (by decide) (ho9.ext F4.ext)
  have ho11 := (ho9.ext F4.ext).chg ch11 (fun k hk hm' => hni (by simp at hm'; rwa [<- hm']))
  have Z : Ext w5.drew w11 := S4.1.chg ch11 (by simp; exact hr8)
  have X11 := (Y5.trans D).trans Z
  rw [v2] at ho
  have hor := ho.reps
  obtain ⟨t0, tp, tn, tc, tz, tp2, tn2, tc2, tz2, rfl, _, _, _⟩ := open_Rat hor (rmk_code _ _)
  refine ⟨w11, st11, _, _, _, _, _, _, _, (b6.ext X11).loadA0 (by kernel_rfl), _, _, _, _, _, _, _, bk11.loadA0 (by kernel_rfl), ?_⟩
  refine Ret.at (impl_RatAdd_n (hor.ext X11) ho11.reps v3 u3) ?_
  rintro v w12 ⟨vs12, f12, hv, ho12, nd12, y12⟩
  subst hv
  obtain ⟨a1, a2⟩ := red_add (V := (V : Int)) (v := (((e - F) * m * 10 ^ (30 - t) : Nat) : Int)) (X := 10 ^ 30) (Nat.pow_pos (by decide))
  rw [a1, <- Int.natCast_add] at ho12
  rw [a2, <- Int.natCast_add, s1]
  obtain ⟨j0, jp, jn, jc, jz, jp2, jn2, jc2, jz2, rfl, _, _, _⟩ := open_Rat ho12.reps (redR_code _ _)
  refine ⟨_, _, _, _, _, _, _, _, rfl, ?_⟩
  intro r3 w13 hn13
  have e13 := hn13.r_eq; have z13 := hn13.size
  obtain ⟨w14, st14, bk14, y14⟩ := hn13.fill (P := P) (t := T_impl_Rat) ho12.reps.cells1 (by kernel_rfl) rfl
  have X14 := (X11.trans y12).trans y14
  have lX := (X11).le; have l12 := y12.le; have l14 := y14.le
  refine ⟨w14, st14, _, _, _, _, _, _, _, bk14.loadA0 (by kernel_rfl), _, (b7.ext X14).loadAt 0 rfl (by kernel_rfl) rfl, fun _ => ⟨fun _ => ?_, fun h => absurd h (by simp)⟩, fun h => absurd h (by simp)⟩
  have o14 := ho12.ext y14
  obtain ⟨w15, st15, k6, ch15, z15⟩ := (b6.ext X14).storeA0 (P := P) (t := T_impl_Rat) (xs := [.bool j0, .slice jp jn jc, .slice jp2 jn2 jc2]) (by kernel_rfl) rfl (by simp [Value.oneCell'])
  obtain ⟨w16, st16, k7, ch16, z16⟩ := ((b7.ext X14).chg ch15 (by simp; exact h67.symm)).store0 (P := P) (t := T_bool) (k := 0) (v := .bool true) (by kernel_rfl) (by simp) rfl
  have o15 := o14.chg ch15 (fun k hk hm' => by have := (ho12.lt k hk).1; simp at hm'; omega)
  have o16 := o15.chg ch16 (fun k hk hm' => by have := (ho12.lt k hk).1; simp at hm'; omega)
  exact ⟨w15, st15, w16, st16, ((hx0.trans X14).toChg.trans (ch15.mono (fun k hk => by simp at hk ⊢; omega))).trans (ch16.mono (fun k hk => by simp at hk ⊢; omega)), ⟨_, f12, k6.chg ch16 (by simp; exact h67), o16.mono (by omega), nd12⟩, k7⟩
theorem impl_FeeExact_body_n {w W : World} {B q2 q3 q6 q7 q9 x n c b off : Nat} {q : Option Addr} {m d V : Nat} {b0 : Bool} {z : List Int} {l : List (List D0)} {rc cs : List Value} {f : List Nat} {zf : Nat -> Value}
    (hx : Ext w W) (h : RowsR w 4 (some ⟨b, off, none⟩) n c l) (hc : ∀ x ∈ l, x.map D0.code = [.int, .bool, .ints, .int]) (hm : IntsR w q m d z) (hcan : Canon z) (hz4 : z.length <= 4) (hn8 : l.length <= 8) (hall : ∀ i < l.length, stepOk l i = true)
    (b2 : Blk W q2 T_s_impl_Step [.slice (some ⟨b, off, none⟩) n c]) (b3 : Blk W q3 T_impl_Signed [.bool b0, .slice q m d]) (b6 : Blk W q6 T_impl_Rat cs) (b7 : Blk W q7 T_bool [.bool true]) (b9 : Blk W q9 T_impl_Step rc) (hxl : x < l.length) (hrc : Reps w rc (l[x]))
    (hFv : stepFrom (l.getD x []) <= val z) (h67 : q6 ≠ q7) (ho : Owns W B cs (redR (V : Int) (10 ^ 30)) f) (hB : B <= W.heap.size) (hV : V + feeV l (val z) x <= 9 * (1000000000000000000000000000000000000 * 1000000000 * 1000000000000000000000000000000)) :
    impl_FeeExact_body q2 q3 q6 q7 (x : Nat) q9 zf W (fun _ W' => Chg [q6, q7] W W' /\ (∃ cs f, Blk W' q6 T_impl_Rat cs /\ Owns W' B cs (redR ((V + feeV l (val z) x : Nat) : Int) (10 ^ 30)) f /\ f.Nodup) /\ Blk W' q7 T_bool [.bool true]) := by
  have hln := h.1
  have hrr := hrc
  obtain ⟨F, mm, t, el, eg, hF, hmm, ht, e1, e2, e3⟩ := step_row hall hc hxl
  rw [el] at hrc
  obtain ⟨a0, a1, dp, dn, dc, dz, a3, rfl, hd, hdi⟩ := open_Step hrc rfl
  simp only [List.cons.injEq, D0.int.injEq, D0.bool.injEq, D0.ints.injEq, and_true] at hd
  obtain ⟨rfl, rfl, rfl, rfl⟩ := hd
  have hv0 := val_nonneg hcan.1
  have hdz : digs (val z).toNat = z := digs_val hcan
  have hfv : ∀ e : Nat, endOf l (val z) x = (e : Int) -> feeV l (val z) x = (e - F) * mm * 10 ^ (30 - t) := fun e he => by
    unfold feeV
    rw [he, e1, e2, e3]
    congr 2
    omega
  rw [e1] at hFv
  have l6 := b6.lt; have l7 := b7.lt
  obtain ⟨bb, oo, hp, hrows⟩ := h.2.2.2 (by omega)
  cases hp
  have first : ∀ i (hi : i < l.length), ∀ W, Ext w W -> Loads P T_int (((⟨b, off, none⟩ : Addr).add (i * 4)).add 0) (.int .i64 (stepFrom (l.getD i []))) W := by
    intro i hi W hW
    obtain ⟨cs, hk, hr, hsg⟩ := hrows i _ (List.getElem?_eq_getElem hi)
    obtain ⟨a0, a1, a2p, a2n, a2c, a2z, a3, rfl, hd, _⟩ := open_Step hr (hc _ (List.getElem_mem hi))
    rw [getD_lt hi, hd]
    exact (hsg.ext hW).loadAt 0 (by simp [Addr.add]) (by kernel_rfl) rfl
  have whole : endOf l (val z) x = val z -> ∀ W1, Ext W W1 -> impl_FeeExact_body_j0 q6 q7 q9 q m d W1 (fun _ W' => Chg [q6, q7] W W' /\ (∃ cs f, Blk W' q6 T_impl_Rat cs /\ Owns W' B cs (redR ((V + feeV l (val z) x : Nat) : Int) (10 ^ 30)) f /\ f.Nodup) /\ Blk W' q7 T_bool [.bool true]) := by
    intro he W1 y
    have hk := hfv (val z).toNat (by rw [he]; omega)
    rw [hk] at hV ⊢
    have := y.le
    exact impl_FeeExact_body_j0_n (e := (val z).toNat) (by rw [hdz]; exact hm.ext (hx.trans y)) (by rw [hdz]; exact hz4) (by omega) hF hmm ht (b6.ext y) (b7.ext y) (b9.ext y) (hdi.ext (hx.trans y)) h67 (ho.ext y) (by omega) hV ⟨by omega, by omega⟩ y
  unfold impl_FeeExact_body
  refine ⟨_, _, _, b3.loadAt 1 rfl (by kernel_rfl) rfl, exW ⟨by omega, by omega⟩ ⟨_, _, _, b2.loadAt 0 rfl (by kernel_rfl) rfl, ifD (fun hlt => ?_) (fun hge => ⟨fun h => absurd h (by simp), fun _ => whole (by unfold endOf; rw [if_neg (by omega)]) _ (Ext.refl W)⟩)⟩⟩
  have hx1 : x + 1 < l.length := by omega
  obtain ⟨F2, _, _, _, _, hF2, _, _, f1, _, _⟩ := step_row hall hc hx1
  have hidx : ((x : Int) + 1).toNat = x + 1 := by omega
  refine ⟨_, _, _, b2.loadAt 0 rfl (by kernel_rfl) rfl, exW ⟨by omega, by omega⟩ ⟨⟨by omega, by omega⟩, _, by rw [hidx]; exact first (x + 1) hx1 W hx, ?_⟩⟩
  rw [f1]
  refine Ret.at (impl_NatOf_c (n := (F2 : Int)) (by omega) (by omega)) ?_
  rintro v w1 ⟨p1, n1, c1, hv, ho1, y1⟩
  subst hv
  rw [Int.toNat_natCast] at ho1
  refine ⟨_, _, _, rfl, ?_⟩
  refine Ret.at (impl_natCmp_c ho1.ints (hm.ext (hx.trans y1))) ?_
  rintro v w2 ⟨hv, y2⟩
  subst hv
  have Y2 := y1.trans y2
  have hcm := cmpL_val (digs_canon F2) hcan
  rw [val_digs] at hcm
  refine ⟨_, rfl, ifD (fun hneg => ?_) (fun hpos => whole (by unfold endOf; rw [f1, if_neg (by omega)]) _ Y2)⟩
  have he : endOf l (val z) x = (F2 : Int) := by unfold endOf; rw [f1, if_pos (by omega)]
  refine ⟨_, _, _, (b2.ext Y2).loadAt 0 rfl (by kernel_rfl) rfl, exW ⟨by omega, by omega⟩ ⟨⟨by omega, by omega⟩, _, by rw [hidx]; exact first (x + 1) hx1 w2 (hx.trans Y2), ?_⟩⟩
  rw [f1]
  refine Ret.at (impl_NatOf_c (n := (F2 : Int)) (by omega) (by omega)) ?_
  rintro v w3 ⟨p3, n3, c3, hv, ho3, y3⟩
  subst hv
  rw [Int.toNat_natCast] at ho3
  refine ⟨_, _, _, rfl, ?_⟩
  have Y3 := Y2.trans y3
  have hk := hfv F2 he
  rw [hk] at hV ⊢
  have l3 := Y3.le
  have hup : F <= F2 := by
    have := steps_up hall x (x + 1) (by omega) hx1
    rw [e1, f1] at this; omega
  exact impl_FeeExact_body_j0_n (e := F2) ho3.ints (by have := one_len (m := F2); have h9 : (1000000000 : Nat) ^ 2 = 1000000000000000000 := by decide
                                                       have := digs_len (n := F2) 2 (by omega)
                                                       omega) hup hF hmm ht (b6.ext Y3) (b7.ext Y3) (b9.ext Y3) (hdi.ext (hx.trans Y3)) h67 (ho.ext Y3) (by omega) hV ⟨by omega, by omega⟩ Y3
end Go.Proofs.YtgbknjdjbahdkaaGreatDoor
namespace Go.Proofs.YtgbknjdjbahdkaaGreatDoor
open Go Go.Proofs.YtgbknjdjbahdkaaGreatDoor.Sx
theorem impl_FeeExact_no {w : World} {p : Option Addr} {n c : Nat} {l : List (List D0)} {xs : List Value} {b : Bool} {z : List Int} (h : RowsR w 4 p n c l) (hc : ∀ x ∈ l, x.map D0.code = [.int, .bool, .ints, .int]) (g : Reps w xs [.bool b, .ints z]) (hno : (stepsOk l && intOk [.bool b, .ints z] && decide (z.length <= 4)) = false) :
    Ret P n_impl_FeeExact [.slice p n c, .agg ⟨xs⟩] w fun v w' => ∃ vs f, v = .tuple #[.agg ⟨vs⟩, .bool false] /\ Owns w' w.heap.size vs rat0 f /\ f.Nodup /\ Ext w w' := by
  have gr := g
  obtain ⟨b0, q, m, d, z0, rfl, he, hz⟩ := open_Signed g rfl
  cases he
  have hzl := hz.1
  refine impl_FeeExact_ret ?_
  unfold impl_FeeExact
  intro r w1 hn1 r1 w2 hn2 r2 w3 hn3
  have e1 := hn1.r_eq; have e2 := hn2.r_eq; have e3 := hn3.r_eq; have z1 := hn1.size; have z2 := hn2.size; have z3 := hn3.size
  have X := (hn1.ext.trans hn2.ext).trans hn3.ext
  have q0 := (hn1.blk.ext hn2.ext).ext hn3.ext; have q1 := hn2.blk.ext hn3.ext; have q2 := hn3.blk
  have zero : ∀ W, Ext w3 W -> ∃ W', Stores P T_impl_Rat ⟨r2, 0, none⟩ (.agg ⟨[.bool false, .slice none 0 0, .slice none 0 0]⟩) W W' /\ ∃ (rb : Bool) (rp : Option Addr) (rn rc : Nat) (rp2 : Option Addr) (rn2 rc2 : Nat), Loads P T_impl_Rat ⟨r2, 0, none⟩ (.agg #[.bool rb, .slice rp rn rc, .slice rp2 rn2 rc2]) W' /\ (fun (v : Value) (w' : World) => ∃ vs f, v = .tuple #[.agg ⟨vs⟩, .bool false] /\ Owns w' w.heap.size vs rat0 f /\ f.Nodup /\ Ext w w') (.tuple #[.agg #[.bool rb, .slice rp rn rc, .slice rp2 rn2 rc2], .bool false]) W' := by
    intro W hW
    have lW := hW.le
    obtain ⟨W', st', ld', ow', xx', _, _⟩ := agg_end (t := T_impl_Rat) (q2.ext hW) (X.trans hW) (by omega) (own_rat0 W (r2 + 1)) (by kernel_rfl) rfl (by omega) (by omega)
    exact ⟨W', st', _, _, _, _, _, _, _, ld', _, [], rfl, ow', List.nodup_nil, xx'⟩
  refine ⟨_, _, _, q0.loadAt 0 rfl (by kernel_rfl) rfl, ?_⟩
  refine Ret.at (impl_StepsOk_c (h.ext X) hc) ?_
  rintro v w4 ⟨hv, y4⟩
  subst hv
  refine ⟨_, rfl, ifN (fun _ => ifT (ifT (zero _ y4))) (fun hs => ⟨_, _, _, _, (q1.ext y4).loadA0 (by kernel_rfl), ?_⟩)⟩
  refine Ret.at (impl_IntOk_c (gr.ext (X.trans y4)) rfl) ?_
  rintro v w5 ⟨hv, y5⟩
  subst hv
  have Y5 := y4.trans y5
  refine ⟨_, rfl, ifN (fun _ => ifT (zero _ Y5)) (fun hi => ⟨_, _, _, (q1.ext Y5).loadAt 1 rfl (by kernel_rfl) rfl, ifD (fun _ => zero _ Y5) (fun hge => ?_)⟩)⟩
  rw [hs, hi, decide_eq_true (show z.length <= 4 by omega)] at hno
  cases hno
theorem results_cell_tmp {fn : Func} {tmps : Array Value} {a b : Tmp} {t : TypeId} {ad : Addr} {v u : Value} {w : World} (hr : fn.results = #[.cell a t, .tmp b]) (ha : tmps.getD a undef = .pointer (some ad)) (hb : tmps.getD b undef = u) (hl : Loads P t ad v w) :
    (results fn tmps).run P w = .ok (.tuple #[v, u]) w := by
  have hl' : (loadVar t ad).run P w = .ok v w := hl
  rw [results_eq, hr]
  simp only [Array.mapM_eq_mapM_toList, List.mapM_cons, List.mapM_nil, resF, ha, hb, asAddr, Sem.run_bind, Sem.run_map, Sem.run_pure, Result.andThen_ok, hl']
  simp
end Go.Proofs.YtgbknjdjbahdkaaGreatDoor
namespace Go.Proofs.YtgbknjdjbahdkaaGreatDoor
open Go Go.RowKit Go.Shelf Go.Proofs Go.Proofs.YtgbknjdjbahdkaaGreatDoor.Sx
theorem blk_grow {W W' : World} {row : Option Nat} {B k : Nat} {e : TypeId} {xs : List Value} (h : Blk W k e xs) (hg : W.grownBy W' row) (hr : ∀ r, row = some r -> B <= r /\ ∃ o : Obj, W.heap[r]? = some o /\ o.isCells = false) : Blk W' k e xs := by
  refine (hg.block k h.lt (fun he => ?_)).trans h
  obtain ⟨_, o, ho, hc⟩ := hr k he.symm
  have := h.symm.trans ho
  cases this
  simp [Obj.isCells] at hc
theorem own_grow {W W' : World} {row : Option Nat} {B b size : Nat} {e : TypeId} {p : Option Addr} {n c : Nat} {xs : List Value} (h : Sx.Own W b e size p n c xs) (hg : W.grownBy W' row) (hr : ∀ r, row = some r -> B <= r /\ ∃ o : Obj, W.heap[r]? = some o /\ o.isCells = false) : Sx.Own W' b e size p n c xs := by
  refine ⟨h.1, ?_⟩
  rcases h.2 with hn | ⟨g, cap, cur, he, hb, hgg, rest⟩
  · exact .inl hn
  · refine .inr ⟨g, cap, cur, he, hb, ?_, rest⟩
    refine (hg.block g (Array.getElem?_eq_some_iff.1 hgg).1 (fun e => ?_)).trans hgg
    obtain ⟨_, o, ho, hc⟩ := hr g e.symm
    have := hgg.symm.trans ho
    cases this
    simp [Obj.isCells] at hc
theorem own0_grow {W W' : World} {row : Option Nat} {B b : Nat} {v : Value} {d : D0} {f : List Nat} (h : Own0 W b v d f) (hg : W.grownBy W' row) (hr : ∀ r, row = some r -> B <= r /\ ∃ o : Obj, W.heap[r]? = some o /\ o.isCells = false) : Own0 W' b v d f := by
  cases d <;> simp only [Own0] at h ⊢ <;> try exact h
  obtain ⟨p, n, c, hv, ho, hf⟩ := h
  exact ⟨p, n, c, hv, own_grow ho hg hr, hf⟩
theorem owns_grow {W W' : World} {row : Option Nat} {B b : Nat} (hg : W.grownBy W' row) (hr : ∀ r, row = some r -> B <= r /\ ∃ o : Obj, W.heap[r]? = some o /\ o.isCells = false) : ∀ {vs : List Value} {ds : List D0} {f : List Nat}, Owns W b vs ds f -> Owns W' b vs ds f
  | [], [], _, h => h
  | [], _ :: _, _, h => h.elim
  | _ :: _, [], _, h => h.elim
  | _ :: _, _ :: _, _, h => by
    obtain ⟨f1, f2, rfl, h1, h2⟩ := h
    exact ⟨f1, f2, rfl, own0_grow h1 hg hr, owns_grow hg hr h2⟩
theorem blk_frozen {w : World} {b k : Nat} {e : TypeId} {xs : List Value} (h : Blk w b e xs) : w.frozen? ⟨b, k, none⟩ = false := by
  have h' : w.heap[b]? = some (.cells ⟨xs⟩ e (0, 0)) := h
  simp [World.frozen?, h']
theorem keepsFrom_chg {S : List Nat} {B : Nat} {W W' : World} (h : Chg S W W') (hS : ∀ k ∈ S, k < B) : KeepsFrom B W W' :=
  ⟨h.size, fun k o hB hk ho => (h.block k (Array.getElem?_eq_some_iff.1 hk).1 (fun hm => by have := hS k hm; omega)).trans hk⟩
theorem below_chg {S : List Nat} {B : Nat} {W W' : World} (h : Chg S W W') (hS : ∀ k ∈ S, B <= k) (hB : B <= W.heap.size) : Below B W W' :=
  ⟨h.os, h.tape, h.output, h.size, fun k hk => h.block k (by omega) (fun hm => by have := hS k hm; omega)⟩
theorem blk_setCell {w : World} {b k : Nat} {e : TypeId} {cs : List Value} (h : Blk w b e cs) (v : Value) : Blk (w.setCell ⟨b, k, none⟩ v) b e (cs.set k v) /\ Chg [b] w (w.setCell ⟨b, k, none⟩ v) := by
  have h' : w.heap[b]? = some (.cells ⟨cs⟩ e (0, 0)) := h
  refine ⟨?_, rfl, rfl, rfl, by simp [World.setCell], fun j hj hn => Below.heap_setCell w ⟨b, k, none⟩ v j (by simpa using hn)⟩
  show (w.heap.modify b _)[b]? = _
  rw [Array.getElem?_modify, if_pos rfl, h']
  simp
set_option maxRecDepth 100000 in
set_option maxHeartbeats 8000000 in
theorem impl_FeeExact_yes {w : World} {p : Option Addr} {n c : Nat} {l : List (List D0)} {xs : List Value} {b0 : Bool} {z : List Int} (h : RowsR w 4 p n c l) (hc : ∀ x ∈ l, x.map D0.code = [.int, .bool, .ints, .int]) (g : Reps w xs [.bool b0, .ints z]) (hs : stepsOk l = true) (hi : intOk [.bool b0, .ints z] = true) (hz4 : z.length <= 4) :
    Ret P n_impl_FeeExact [.slice p n c, .agg ⟨xs⟩] w fun v w' => ∃ vs f, v = .tuple #[.agg ⟨vs⟩, .bool true] /\ Owns w' w.heap.size vs (redR ((feeSum l (val z) (List.range (lastLe l (val z) l.length + 1).toNat) : Nat) : Int) (10 ^ 30)) f /\ f.Nodup /\ Ext w w' := by
  have gr := g
  obtain ⟨b1, q, m, d, z1, rfl, hez, hz⟩ := open_Signed g rfl
  simp only [List.cons.injEq, D0.bool.injEq, D0.ints.injEq, and_true] at hez
  obtain ⟨rfl, rfl⟩ := hez
  refine (callsIn_wide (n := 10)).1 ?_
  change CallsIn Fence.wide 10 Tryz.prog 12 #[.slice p n c, .agg #[.bool b0, .slice q m d]] w fun e w' => ∃ v, e = .returned v /\ ∃ vs f, v = .tuple #[.agg ⟨vs⟩, .bool true] /\ Owns w' w.heap.size vs (redR ((feeSum l (val z) (List.range (lastLe l (val z) l.length + 1).toNat) : Nat) : Int) (10 ^ 30)) f /\ f.Nodup /\ Ext w w'
  have hS : ∀ W, Ext w W -> Ret P n_impl_StepsOk [.slice p n c] W fun v w' => v = .bool true /\ Ext W w' := fun W x => by rw [<- hs]; exact impl_StepsOk_c (h.ext x) hc
  have hI : ∀ W, Ext w W -> Ret P n_impl_IntOk [.agg ⟨[.bool b0, .slice q m d]⟩] W fun v w' => v = .bool true /\ Ext W w' := fun W x => by rw [<- hi]; exact impl_IntOk_c (gr.ext x) rfl
  have hcan : Canon z := by
    obtain ⟨_, b', z', he, hcan, _⟩ := intOk_enc hi
    simp only [List.cons.injEq, D0.bool.injEq, D0.ints.injEq, and_true] at he
    obtain ⟨_, rfl⟩ := he
    exact hcan
  have hln := h.1
  have hvb : val z < 1000000000000000000000000000000000000 := by
    have h1 := val_lt hcan.1
    have h2 : z.length = 0 ∨ z.length = 1 ∨ z.length = 2 ∨ z.length = 3 ∨ z.length = 4 := by omega
    rcases h2 with e | e | e | e | e <;> rw [e] at h1 <;> simp at h1 <;> omega
  have hs0 := hs
  simp only [stepsOk, Bool.and_eq_true, decide_eq_true_eq, List.all_eq_true, List.mem_range] at hs
  obtain ⟨⟨⟨hn1, hn8⟩, hz0⟩, hall⟩ := hs
  have hrw := h
  obtain ⟨b, off, rfl, hrows⟩ := h.2.2.2 (by omega)
  have hF : ∀ j, j < n -> 0 <= stepFrom (l.getD j []) /\ stepFrom (l.getD j []) <= 9223372036854775807 := fun j hj => by
    have := hall j (by omega)
    simp only [stepOk, Bool.and_eq_true, decide_eq_true_eq] at this
    omega
  have hpick : ∀ j, ∃ t : Bool × Option Addr × Nat × Nat × Int, j < n -> (w.cell? ⟨b, off + j * 4, none⟩ = some (.int .i64 (stepFrom (l.getD j []))) /\ w.cell? ⟨b, off + j * 4 + 1, none⟩ = some (.bool t.1) /\ w.cell? ⟨b, off + j * 4 + 2, none⟩ = some (.slice t.2.1 t.2.2.1 t.2.2.2.1) /\ w.cell? ⟨b, off + j * 4 + 3, none⟩ = some (.int .i64 t.2.2.2.2)) /\ Reps w [.int .i64 (stepFrom (l.getD j [])), .bool t.1, .slice t.2.1 t.2.2.1 t.2.2.2.1, .int .i64 t.2.2.2.2] (l.getD j []) := by
    intro j
    rcases Nat.lt_or_ge j n with hj | hj
    · have hjl : j < l.length := by omega
      obtain ⟨cs, h1, h2, h3⟩ := hrows j _ (List.getElem?_eq_getElem hjl)
      have h2' := h2
      obtain ⟨a0, a1, a2p, a2n, a2c, a2z, a3, rfl, he, _⟩ := open_Step h2 (hc _ (List.getElem_mem hjl))
      have hfr : stepFrom (l.getD j []) = a0 := by rw [getD_lt hjl, he]; rfl
      exact ⟨(a1, a2p, a2n, a2c, a3), fun _ => ⟨⟨by rw [hfr]; exact h3 0 _ rfl, h3 1 _ rfl, h3 2 _ rfl, h3 3 _ rfl⟩, by rw [hfr, getD_lt hjl]; exact h2'⟩⟩
    · exact ⟨(false, none, 0, 0, 0), fun h => absurd h (by omega)⟩
  obtain ⟨t, ht⟩ := Classical.axiomOfChoice hpick
  have hb : b < w.heap.size := cell_lt (ht 0 (by omega)).1.1
  obtain ⟨K, hK, hK1, hK2⟩ := upto_le (fun j => decide (stepFrom (l.getD j []) <= val z)) n
  have hcmpv : ∀ j, j < n -> (cmpL (digs (stepFrom (l.getD j [])).toNat) z <= 0 ↔ stepFrom (l.getD j []) <= val z) := fun j hj => by
    have h0 := (hF j hj).1
    have hv : val (digs (stepFrom (l.getD j [])).toNat) = stepFrom (l.getD j []) := by rw [val_digs, Int.toNat_of_nonneg h0]
    rcases cmpL_val (digs_canon (stepFrom (l.getD j [])).toNat) hcan with ⟨e, g⟩ | ⟨e, g⟩ | ⟨e, g⟩ <;> rw [hv] at g <;> omega
  refine callsIn_of_wp_marks Tryz.func12 rfl trivial ?_ rfl
  simp only [Tryz.ntmps12, List.size_toArray, List.length_cons, List.length_nil, Nat.reduceAdd, Nat.reduceSub, Array.replicate_succ, Array.replicate_zero, List.push_toArray, List.append_toArray, List.nil_append, List.cons_append]
  have hzl := hz.1
  have hm4 : ¬ (4 : Int) < (m : Int) := by omega
  have hm4d : decide ((4 : Int) < (m : Int)) = false := decide_eq_false hm4
  have bx0 : Blk (((w.alloc (.cells #[.slice (some ⟨b, off, none⟩) n c] 22)).alloc (.cells #[.bool b0, .slice q m d] 33)).alloc (.cells #[.bool false, .slice none 0 0, .slice none 0 0] 35)) w.heap.size 22 [.slice (some ⟨b, off, none⟩) n c] :=
    Blk.ext (Blk.ext (New.blk ⟨rfl, rfl⟩) ((Below.refl _ _).alloc (Nat.le_refl _) _)) ((Below.refl _ _).alloc (Nat.le_refl _) _)
  have bx1 : Blk (((w.alloc (.cells #[.slice (some ⟨b, off, none⟩) n c] 22)).alloc (.cells #[.bool b0, .slice q m d] 33)).alloc (.cells #[.bool false, .slice none 0 0, .slice none 0 0] 35)) (w.heap.size + 1) 33 [.bool b0, .slice q m d] := by
    refine Blk.ext ?_ ((Below.refl _ _).alloc (Nat.le_refl _) _)
    have := (New.blk (w := w.alloc (.cells #[.slice (some ⟨b, off, none⟩) n c] 22)) ⟨rfl, rfl⟩ : Blk ((w.alloc (.cells #[.slice (some ⟨b, off, none⟩) n c] 22)).alloc (.cells ⟨[.bool b0, .slice q m d]⟩ 33)) _ 33 [.bool b0, .slice q m d])
    rwa [World.size_alloc] at this
  have bx2 : Blk (((w.alloc (.cells #[.slice (some ⟨b, off, none⟩) n c] 22)).alloc (.cells #[.bool b0, .slice q m d] 33)).alloc (.cells #[.bool false, .slice none 0 0, .slice none 0 0] 35)) (w.heap.size + 1 + 1) 35 [.bool false, .slice none 0 0, .slice none 0 0] := by
    have := (New.blk (w := (w.alloc (.cells #[.slice (some ⟨b, off, none⟩) n c] 22)).alloc (.cells #[.bool b0, .slice q m d] 33)) ⟨rfl, rfl⟩ : Blk (((w.alloc (.cells #[.slice (some ⟨b, off, none⟩) n c] 22)).alloc (.cells ⟨[.bool b0, .slice q m d]⟩ 33)).alloc (.cells ⟨[.bool false, .slice none 0 0, .slice none 0 0]⟩ 35)) _ 35 [.bool false, .slice none 0 0, .slice none 0 0])
    rwa [World.size_alloc, World.size_alloc] at this
  have x1 : Ext w (((w.alloc (.cells #[.slice (some ⟨b, off, none⟩) n c] 22)).alloc (.cells #[.bool b0, .slice q m d] 33)).alloc (.cells #[.bool false, .slice none 0 0, .slice none 0 0] 35)) := (((Below.refl _ _).alloc (Nat.le_refl _) _).alloc (by simp) _).alloc (by simp; omega) _
  gi_wp2_with (first
    | (refine ⟨trivial, ?_⟩; gi_at_call 37; refine (callsIn_wide.2 (hS _ x1)).mono ?_; rintro e w2 ⟨v, rfl, rfl, y2⟩
       have k0 := bx0.ext y2; have k1 := bx1.ext y2; have k2 := bx2.ext y2
       have c0 := k1.cell 0
       have c1 := k1.cell 1
       simp only [List.getElem?_cons_zero, List.getElem?_cons_succ] at c0 c1)
    | (refine ⟨trivial, ?_⟩; gi_at_call 44; refine (callsIn_wide.2 (hI _ (x1.trans y2))).mono ?_; rintro e w3 ⟨v, rfl, rfl, y3⟩
       have l0 := k0.ext y3; have l1 := k1.ext y3; have l2 := k2.ext y3
       have d1 := l1.cell 1
       simp only [List.getElem?_cons_zero, List.getElem?_cons_succ] at d1)
    | (refine ⟨trivial, ?_⟩; gi_at_call 45; refine (callsIn_wide.2 (impl_RatZero_c _)).mono ?_; rintro e w4 ⟨v, rfl, vsz, fz, rfl, oz, ndz, y4⟩
       obtain ⟨t0, tp, tn, tc, tz, tp2, tn2, tc2, tz2, rfl, _, _, _⟩ := open_Rat oz.reps rfl
       have m0 := l0.ext y4; have m1 := l1.ext y4; have m2 := l2.ext y4
       have a2 : Ext w4 ((w4.alloc (.cells #[.bool t0, .slice tp tn tc, .slice tp2 tn2 tc2] 35)).alloc (.cells #[.bool true] 4)) := ((Below.refl _ _).alloc (Nat.le_refl _) _).alloc (by simp) _
       have e0 := (m0.ext a2).cell 0
       have e1 := (m1.ext a2).cell 1
       have hm1 := m1.lt; have hm2 := m2.lt
       simp only [List.getElem?_cons_zero, List.getElem?_cons_succ] at e0 e1)
    | (refine ⟨trivial, ?_⟩; gi_at_call 46; refine (stepsTo_in _ _ _ _ _ _ _).mono ?_; rintro e w5 ⟨rfl, rfl⟩))
  have x4 : Ext w w4 := ((x1.trans y2).trans y3).trans y4
  have hle4 := x4.le
  obtain ⟨W6, hW6⟩ : ∃ W6, (((w4.alloc (.cells #[.bool t0, .slice tp tn tc, .slice tp2 tn2 tc2] 35)).alloc (.cells #[.bool true] 4)).alloc (.cells #[.slice (some ⟨b, off, none⟩) n c] 22)).alloc (.cells #[.slice q m d] 31) = W6 := ⟨_, rfl⟩
  have sz6 : W6.heap.size = w4.heap.size + 4 := by rw [<- hW6]; simp
  have x46 : Ext w4 W6 := by rw [<- hW6]; exact ((((Below.refl _ _).alloc (Nat.le_refl _) _).alloc (by simp) _).alloc (by simp; omega) _).alloc (by simp; omega) _
  have n2 : Blk W6 w4.heap.size 35 [.bool t0, .slice tp tn tc, .slice tp2 tn2 tc2] := by
    rw [<- hW6]; exact (((New.blk (w := w4) ⟨rfl, rfl⟩ : Blk (w4.alloc (.cells ⟨[.bool t0, .slice tp tn tc, .slice tp2 tn2 tc2]⟩ 35)) _ _ _).ext ((Below.refl _ _).alloc (Nat.le_refl _) _)).ext ((Below.refl _ _).alloc (Nat.le_refl _) _)).ext ((Below.refl _ _).alloc (Nat.le_refl _) _)
  have n3 : Blk W6 (w4.heap.size + 1) 4 [.bool true] := by
    have k := (New.blk (w := w4.alloc (.cells #[.bool t0, .slice tp tn tc, .slice tp2 tn2 tc2] 35)) ⟨rfl, rfl⟩ : Blk ((w4.alloc (.cells #[.bool t0, .slice tp tn tc, .slice tp2 tn2 tc2] 35)).alloc (.cells ⟨[.bool true]⟩ 4)) _ _ _)
    rw [World.size_alloc] at k
    rw [<- hW6]; exact (k.ext ((Below.refl _ _).alloc (Nat.le_refl _) _)).ext ((Below.refl _ _).alloc (Nat.le_refl _) _)
  have n4 : Blk W6 (w4.heap.size + 1 + 1) 22 [.slice (some ⟨b, off, none⟩) n c] := by
    have k := (New.blk (w := (w4.alloc (.cells #[.bool t0, .slice tp tn tc, .slice tp2 tn2 tc2] 35)).alloc (.cells #[.bool true] 4)) ⟨rfl, rfl⟩ : Blk (((w4.alloc (.cells #[.bool t0, .slice tp tn tc, .slice tp2 tn2 tc2] 35)).alloc (.cells #[.bool true] 4)).alloc (.cells ⟨[.slice (some ⟨b, off, none⟩) n c]⟩ 22)) _ _ _)
    rw [World.size_alloc, World.size_alloc] at k
    rw [<- hW6]; exact k.ext ((Below.refl _ _).alloc (Nat.le_refl _) _)
  have n5 : Blk W6 (w4.heap.size + 1 + 1 + 1) 31 [.slice q m d] := by
    have k := (New.blk (w := ((w4.alloc (.cells #[.bool t0, .slice tp tn tc, .slice tp2 tn2 tc2] 35)).alloc (.cells #[.bool true] 4)).alloc (.cells #[.slice (some ⟨b, off, none⟩) n c] 22)) ⟨rfl, rfl⟩ : Blk ((((w4.alloc (.cells #[.bool t0, .slice tp tn tc, .slice tp2 tn2 tc2] 35)).alloc (.cells #[.bool true] 4)).alloc (.cells #[.slice (some ⟨b, off, none⟩) n c] 22)).alloc (.cells ⟨[.slice q m d]⟩ 31)) _ _ _)
    rw [World.size_alloc, World.size_alloc, World.size_alloc] at k
    rw [<- hW6]; exact k
  rw [hW6]
  clear hW6
  have x6 : Ext w W6 := x4.trans x46
  have hz30 : ratZeroD = redR ((0 : Nat) : Int) (10 ^ 30) := by decide +kernel
  have o6 := (oz.ext x46).mono (B' := w.heap.size + 3) (by have := l2.lt; omega)
  rw [hz30] at o6
  have p0 := m0.ext x46; have p1 := m1.ext x46; have p2 := m2.ext x46
  have hB0 : Below w.heap.size w W6 := x6
  have hKn8 : K <= 8 := by omega
  have hm1 : Blk W6 (w.heap.size + 1) 33 [.bool b0, .slice q m d] := p1
  obtain ⟨RC, hRC⟩ : ∃ RC : Nat -> List Value, RC = fun x => [.int .i64 (stepFrom (l.getD x [])), .bool (t x).1, .slice (t x).2.1 (t x).2.2.1 (t x).2.2.2.1, .int .i64 (t x).2.2.2.2] := ⟨_, rfl⟩
  obtain ⟨TM, hTM⟩ : ∃ TM : Nat -> Nat -> List Value, TM = fun x Bx => [.slice (some ⟨b, off, none⟩) n c, .agg #[.bool b0, .slice q m d], .pointer (some ⟨w.heap.size, 0, none⟩), .pointer (some ⟨w.heap.size + 1, 0, none⟩), .pointer (some ⟨w.heap.size + 1 + 1, 0, none⟩), .bool false, .pointer (some ⟨w4.heap.size, 0, none⟩), .pointer (some ⟨w4.heap.size + 1, 0, none⟩), .int .i64 (x : Nat), .pointer (some ⟨Bx, 0, none⟩), undef, undef, undef, undef, undef, undef, .slice (some ⟨b, off, none⟩) n c, .bool true, .bool false, .bool false, .agg #[.bool b0, .slice q m d], .bool true, .bool false, .bool false, .bool false, .pointer (some ⟨w.heap.size + 1, 1, none⟩), .slice q m d, .int .i64 m, .bool false, .bool false, undef, .agg ⟨[.bool t0, .slice tp tn tc, .slice tp2 tn2 tc2]⟩, .slice (some ⟨b, off, none⟩) n c, .pointer (some ⟨w.heap.size + 1, 1, none⟩), .slice q m d, .func (.func 92) #[] #[.pointer (some ⟨w4.heap.size + 1 + 1, 0, none⟩), .pointer (some ⟨w4.heap.size + 1 + 1 + 1, 0, none⟩)], .int .i64 (x : Nat), .agg ⟨RC x⟩, undef, undef, undef, undef, undef, undef, undef, undef, undef, undef, undef, undef, undef, undef, undef, undef, undef, undef, undef, undef, undef, undef, undef, undef, undef, undef, undef, undef, undef, undef, undef, undef, undef, undef, undef, undef, undef, undef, undef, undef, undef, undef, undef, undef, undef, undef, undef, undef, undef, undef, undef, undef, undef, undef, undef, undef, undef, undef, undef, undef] := ⟨_, rfl⟩
  have hsz4 : w.heap.size + 3 <= w4.heap.size := by have := m2.lt; omega
  refine wpIn_rangeFunc_ownH (α := {x : Nat // x < K}) (n := 10) rfl (by omega) (gf := 92) (lb := #[.pointer (some ⟨w4.heap.size + 1 + 1, 0, none⟩), .pointer (some ⟨w4.heap.size + 1 + 1 + 1, 0, none⟩)]) rfl trivial (enters_of Tryz.func92 (by kernel_rfl) rfl)
    (encs := fun x => #[.int .i64 (x.1 : Nat), .agg ⟨RC x.1⟩])
    (Kp := fun A B => Below w.heap.size A B /\ B.cell? ⟨w4.heap.size + 1 + 1 + 1, 0, none⟩ = A.cell? ⟨w4.heap.size + 1 + 1 + 1, 0, none⟩) (S := fun ys => ys.map (·.1) = List.range K) (Sp := fun _ => True) (N := n) (w0 := W6)
    (fun l' J Jx W hW hJ _ hY h0 => (stepsTo1_in l' (w4.heap.size + 1 + 1) (w4.heap.size + 1 + 1 + 1) b off n c q m d K z w (fun j => stepFrom (l.getD j [])) (fun j => (t j).1) (fun j => (t j).2.1) (fun j => (t j).2.2.1) (fun j => (t j).2.2.2.1) (fun j => (t j).2.2.2.2)
      (by omega) hz (fun j hj => (ht j hj).1) hb hcan hF hK (fun j hj => (hcmpv j (by omega)).2 (by simpa using hK1 j hj)) (fun hKn => by
        have h1 := hK2 hKn
        have h2 := (hcmpv K hKn).1
        simp only [decide_eq_false_iff_not] at h1
        omega)
      (fun ps W => ∃ L : List {x : Nat // x < K}, L.map (·.1) = ps /\ J L W) (fun ps W => ∃ L : List {x : Nat // x < K}, L.map (·.1) = ps /\ Jx L W)
      (fun pre x W hxK hJp hlen => by
        obtain ⟨L, hL, hJL⟩ := hJp
        obtain ⟨fn, tmps, assign, body, hy, hR⟩ := hY L ⟨x, hxK⟩ W hJL (by rw [<- hL] at hlen; simpa using hlen)
        rw [hRC] at hy
        refine ⟨fn, tmps, assign, body, hy, hR.mono ?_⟩
        rintro e W' (⟨h1, h2, h3⟩ | ⟨h1, h2⟩)
        · exact .inl ⟨h1, ⟨L ++ [⟨x, hxK⟩], by rw [List.map_append, hL]; rfl, h2⟩, h3⟩
        · exact .inr ⟨h1, ⟨L ++ [⟨x, hxK⟩], by rw [List.map_append, hL]; rfl, h2⟩⟩)
      W (fun s A B row hs hg hr => by
        obtain ⟨L, hL, hJL⟩ := hs
        exact ⟨L, hL, hJ L A B row hJL hg hr⟩) (Below.trans hB0 (hW.mono hB0.size)) ((hW.cell (p := ⟨w4.heap.size + 1 + 1, 0, none⟩) (show w4.heap.size + 1 + 1 < W6.heap.size by omega)).trans (n4.cell 0)) ((hW.cell (p := ⟨w4.heap.size + 1 + 1 + 1, 0, none⟩) (show w4.heap.size + 1 + 1 + 1 < W6.heap.size by omega)).trans (n5.cell 0)) ⟨[], rfl, h0⟩).mono (by
        rintro e W' ⟨hv, (⟨ys, rfl, L, hL, hJL⟩ | ⟨pre, _, L, hL, hJL⟩)⟩
        · exact ⟨hv, .inl ⟨L, hL, hJL⟩⟩
        · exact ⟨hv, .inr ⟨L, trivial, hJL⟩⟩))
    (fun h k => ⟨h.1.trans k.1, k.2.trans h.2⟩) (fun W l o o' hl ho hc hwk => ⟨belowK_b (w := W6) (by omega) W l o o' hl ho hc hwk, (belowK_b (n₀ := w4.heap.size + 4) (w := W6) (by omega) W l o o' hl ho hc hwk).cell (p := ⟨w4.heap.size + 1 + 1 + 1, 0, none⟩) (by simp)⟩) (Below.refl _ _) (fun _ => rfl)
    (fun pre W => (∃ cs f, Blk W w4.heap.size 35 cs /\ Owns W (w.heap.size + 3) cs (redR ((feeSum l (val z) (pre.map (·.1)) : Nat) : Int) (10 ^ 30)) f /\ f.Nodup) /\ Blk W (w4.heap.size + 1) 4 [.bool true] /\ Blk W w.heap.size 22 [.slice (some ⟨b, off, none⟩) n c] /\ Blk W (w.heap.size + 1) 33 [.bool b0, .slice q m d] /\ Blk W (w.heap.size + 1 + 1) 35 [.bool false, .slice none 0 0, .slice none 0 0] /\ w4.heap.size + 4 <= W.heap.size /\ Below w.heap.size w W)
    (fun _ _ _ => False)
    (fun s A B row hs hg hr => by
      obtain ⟨⟨cs, f, i1, i2, i3⟩, i4, i5, i6, i7, i8, i9⟩ := hs
      refine ⟨⟨cs, f, blk_grow i1 hg hr, owns_grow hg hr i2, i3⟩, blk_grow i4 hg hr, blk_grow i5 hg hr, blk_grow i6 hg hr, blk_grow i7 hg hr, Nat.le_trans i8 hg.size, ?_⟩
      exact i9.grown hg i9.size (fun k e => by have := (hr k e).1; omega))
    (fun _ _ _ _ _ hs _ _ => hs)
    ⟨⟨_, fz, n2, o6, ndz⟩, n3, p0, p1, p2, by omega, hB0⟩
    (fun x a' W => ∃ Bx, W6.heap.size <= Bx /\ Blk W Bx 48 (RC x.1) /\ a' = { tmps := ⟨TM x.1 Bx⟩, defers := [] })
    (fun x a' s A B row hs hg hr => by
      obtain ⟨Bx, j1, j2, j3⟩ := hs
      exact ⟨Bx, j1, blk_grow j2 hg hr, j3⟩)
    ?assign ?body ?done ?stop
  case assign =>
    intro l' pre x W Kk hI hK
    have hI' := hI
    obtain ⟨_, _, _, _, _, i8, i9⟩ := hI'
    simp only [hRC]
    gi_wp2_with (simp [Oper.semAt_some, go_sem])
    have hal : Below w.heap.size W (W.alloc (.cells ⟨RC x.1⟩ 48)) := (Below.refl _ _).alloc i9.size _
    have hal2 : Ext W (W.alloc (.cells ⟨RC x.1⟩ 48)) := (Below.refl _ _).alloc (Nat.le_refl _) _
    subst hTM hRC
    obtain ⟨⟨cs, f, j1, j2, j3⟩, j4, j5, j6, j7, j8, j9⟩ := hI
    refine hK _ _ ((KeepsOthers.alloc _ _).from _) ⟨hal, hal2.cell (p := ⟨w4.heap.size + 1 + 1 + 1, 0, none⟩) (show w4.heap.size + 1 + 1 + 1 < W.heap.size by omega)⟩ ⟨⟨cs, f, j1.ext hal2, j2.ext hal2, j3⟩, j4.ext hal2, j5.ext hal2, j6.ext hal2, j7.ext hal2, Nat.le_trans j8 hal2.le, j9.trans hal⟩ ⟨W.heap.size, by omega, heap_alloc_new W _, rfl⟩
  case body =>
    rintro l' pre x a' W hl hlr ⟨⟨cs, f, i1, i2, i3⟩, i4, i5, i6, i7, i8, i9⟩ ⟨Bx, hBx, hbx, rfl⟩ hlen
    have hxl : x.1 < l.length := by have := x.2; omega
    have hxn : x.1 < n := by omega
    have hFv : stepFrom (l.getD x.1 []) <= val z := by simpa using hK1 x.1 x.2
    have hrc : Reps w (RC x.1) (l[x.1]) := by
      have := (ht x.1 hxn).2
      rw [hRC]
      rw [<- getD_lt (d := []) hxl]
      exact this
    have hV : feeSum l (val z) (pre.map (·.1)) + feeV l (val z) x.1 <= 9 * (1000000000000000000000000000000000000 * 1000000000 * 1000000000000000000000000000000) := by
      have h1 := feeSum_bound hall hc hvb (pre.map (·.1) ++ [x.1]) (fun y hy => by
        rcases List.mem_append.1 hy with h | h
        · obtain ⟨u, _, rfl⟩ := List.mem_map.1 h
          have := u.2; omega
        · simp at h; omega)
      rw [feeSum_snoc] at h1
      refine Nat.le_trans h1 (Nat.mul_le_mul_right _ ?_)
      simp; omega
    have hbody := impl_FeeExact_body_n (B := w.heap.size + 3) (q2 := w.heap.size) (q3 := w.heap.size + 1) (q6 := w4.heap.size) (q7 := w4.heap.size + 1) (q9 := Bx) (zf := fun k => (TM x.1 Bx).getD k undef) i9 hrw hc hz hcan hz4 (by omega) hall i5 i6 i1 i4 hbx hxl hrc hFv (by omega) i2 (by omega) hV
    rw [impl_FeeExact_body_eq] at hbody
    subst hTM
    refine wpIn_of_bsem (by kernel_rfl) rfl (by kernel_rfl) (fun ⟨_, _, h⟩ => h) ?_ hbody
    rintro a'' W' ⟨hch, ⟨cs', f', c1, c2, c3⟩, c4⟩
    have hbel : Below w.heap.size W W' := below_chg hch (fun k hk => by simp at hk; omega) i9.size
    have hb3 := hch.block (w4.heap.size + 1 + 1 + 1) (by omega) (by simp; omega)
    exact ⟨keepsFrom_chg hch (fun k hk => by simp at hk; omega), ⟨hbel, by simp only [World.cell?]; rw [hb3]⟩, ⟨cs', f', c1, by rw [List.map_append, show List.map (fun x => x.1) [x] = [x.1] from rfl, feeSum_snoc]; exact c2, c3⟩, c4, i5.chg hch (by simp; omega), i6.chg hch (by simp; omega), i7.chg hch (by simp; omega), Nat.le_trans i8 hch.size, i9.trans hbel⟩
  case done =>
    rintro D ys W hD hS' ⟨⟨cs, f, i1, i2, i3⟩, i4, i5, i6, i7, i8, i9⟩ hK'
    rw [hS'] at i2
    obtain ⟨u0, up, un, uc, uz, up2, un2, uc2, uz2, rfl, _, _, _⟩ := open_Rat i2.reps (redR_code _ _)
    have c0 := i1.cell 0
    have c1 := i1.cell 1
    have c2 := i1.cell 2
    have c3 := i4.cell 0
    have r0 := i7.cell 0
    have r1 := i7.cell 1
    have r2 := i7.cell 2
    have f0 := blk_frozen (k := 0) i7
    have f1 := blk_frozen (k := 1) i7
    have f2 := blk_frozen (k := 2) i7
    simp only [List.getElem?_cons_zero, List.getElem?_cons_succ] at c0 c1 c2 c3 r0 r1 r2
    gi_wp2
    obtain ⟨g0, ch0⟩ := blk_setCell (k := 0) i7 (.bool u0)
    obtain ⟨g1, ch1⟩ := blk_setCell (k := 1) g0 (.slice up un uc)
    obtain ⟨g2, ch2⟩ := blk_setCell (k := 2) g1 (.slice up2 un2 uc2)
    have hch := (ch0.trans ch1).trans ch2
    revert g2 hch
    generalize ((W.setCell ⟨w.heap.size + 1 + 1, 0, none⟩ (.bool u0)).setCell ⟨w.heap.size + 1 + 1, 1, none⟩ (.slice up un uc)).setCell ⟨w.heap.size + 1 + 1, 2, none⟩ (.slice up2 un2 uc2) = W3
    intro g2 hch
    have hD2 : W3.heap[D]? = some (.deferred (some [])) := (hch.block D (Array.getElem?_eq_some_iff.1 hK').1 (by simp; omega)).trans hK'
    have hlast : lastLe l (val z) l.length = (K : Int) - 1 := by
      have h1 := lastLe_range hln hK (fun j hj => by simpa using hK1 j hj) (fun hKn => by simpa using hK2 hKn) hn1 hz0 hall
      rw [<- h1]
      cases K with
      | zero => rfl
      | succ K => rw [List.range_succ, lastI_snoc]; omega
    refine ⟨by simp, .inl ⟨_, _, rfl, run_takeDeferred hD2, ?_⟩⟩
    have o3 := i2.chg hch (fun k hk hm => by have := (i2.lt k hk).1; simp at hm; omega)
    have hg := grownBy_putObj' W3 D (.deferred none)
    have hr : ∀ r, some D = some r -> w.heap.size <= r /\ ∃ o : Obj, W3.heap[r]? = some o /\ o.isCells = false := fun r e => by cases e; exact ⟨by omega, _, hD2, rfl⟩
    have g4 := blk_grow g2 hg hr
    have o4 := (owns_grow hg hr o3).mono (B' := w.heap.size) (by omega)
    have b3 : Below w.heap.size W3 (W3.putObj D (.deferred none)) := belowK_b (w := w) (Nat.le_refl _) W3 D _ (.deferred none) (by omega) hD2 rfl rfl
    have b4 : Below w.heap.size W W3 := below_chg hch (fun k hk => by simp at hk; omega) i9.size
    have hlast' : (lastLe l (val z) n + 1).toNat = K := by rw [<- hln, hlast]; omega
    refine ⟨_, results_cell_tmp rfl rfl rfl (Blk.loadA0 g4 (by kernel_rfl)), _, rfl, _, rfl, f, ?_, i3, (i9.trans b4).trans b3⟩
    rw [hlast']
    exact o4
  case stop =>
    rintro D c' pre W hD _ hf _
    exact hf.elim
end Go.Proofs.YtgbknjdjbahdkaaGreatDoor
namespace Go.Proofs.YtgbknjdjbahdkaaGreatDoor
open Go Go.Proofs.YtgbknjdjbahdkaaGreatDoor.Sx
theorem feeR_cnt (n : Int) (d : Nat) : tcnts (redR n d) <= 100 := by
  unfold redR
  split
  · rename_i h
    simp only [redOk, Bool.and_eq_true, decide_eq_true_eq] at h
    simp only [rmk, tcnts, redN_abs]
    unfold redD
    omega
  · decide
theorem feeT_facts (l : List (List D0)) (dy : List D0) : ((feeT l dy).2).map D0.code = [.bool, .ints, .ints] /\ tcnts (feeT l dy).2 <= 1000000000 := by
  unfold feeT
  split
  · rename_i b z
    split
    · have h := feeR_cnt ((feeSum l (val z) (List.range (lastLe l (val z) l.length + 1).toNat) : Nat) : Int) (10 ^ 30)
      exact ⟨redR_code _ _, by change tcnts (redR _ _) <= _; omega⟩
    · exact ⟨rfl, by decide⟩
  · exact ⟨rfl, by decide⟩
theorem impl_FeeExact_c {w : World} {p : Option Addr} {n c : Nat} {l : List (List D0)} {xs : List Value} {dy : List D0} (h : RowsR w 4 p n c l) (hc : ∀ x ∈ l, x.map D0.code = [.int, .bool, .ints, .int]) (g : Reps w xs dy) (gc : dy.map D0.code = [.bool, .ints]) :
    Ret P n_impl_FeeExact [.slice p n c, .agg ⟨xs⟩] w fun v w' => ∃ vs f, v = .tuple #[.agg ⟨vs⟩, .bool (feeT l dy).1] /\ Owns w' w.heap.size vs (feeT l dy).2 f /\ f.Nodup /\ ((feeT l dy).2).map D0.code = [.bool, .ints, .ints] /\ tcnts (feeT l dy).2 <= 1000000000 /\ Ext w w' := by
  obtain ⟨b0, q, m, d, z, rfl, rfl, hz⟩ := open_Signed g gc
  obtain ⟨f1, f2⟩ := feeT_facts l [.bool b0, .ints z]
  cases hok : (stepsOk l && intOk [.bool b0, .ints z] && decide (z.length <= 4)) with
  | false =>
    refine (impl_FeeExact_no h hc g hok).mono ?_
    rintro v w' ⟨vs, f, hv, ho, hn, hx⟩
    have he : feeT l [.bool b0, .ints z] = (false, rat0) := by simp only [feeT, hok, Bool.false_eq_true, if_false]
    rw [he] at f1 f2 ⊢
    exact ⟨vs, f, hv, ho, hn, f1, f2, hx⟩
  | true =>
    have hok' := hok
    simp only [Bool.and_eq_true, decide_eq_true_eq] at hok'
    refine (impl_FeeExact_yes h hc g hok'.1.1 hok'.1.2 hok'.2).mono ?_
    rintro v w' ⟨vs, f, hv, ho, hn, hx⟩
    have he : feeT l [.bool b0, .ints z] = (true, redR ((feeSum l (val z) (List.range (lastLe l (val z) l.length + 1).toNat) : Nat) : Int) (10 ^ 30)) := by simp only [feeT, hok, if_true]
    rw [he] at f1 f2 ⊢
    exact ⟨vs, f, hv, ho, hn, f1, f2, hx⟩
end Go.Proofs.YtgbknjdjbahdkaaGreatDoor
namespace Go.Proofs.YtgbknjdjbahdkaaGreatDoor
open Go Go.Proofs.YtgbknjdjbahdkaaGreatDoor.Sx
theorem lastLe_lt (l : List (List D0)) (v : Int) : ∀ j, lastLe l v j < (j : Int)
  | 0 => by simp [lastLe]
  | j + 1 => by
    have := lastLe_lt l v j
    unfold lastLe
    split <;> omega
def feeMT (l : List (List D0)) : List D0 -> Int -> Bool × List D0 × List D0
  | [.str c, .bool b, .ints z], mode =>
    if moneyOk [.str c, .bool b, .ints z] && (feeT l [.bool b, .ints z]).1 then
      (rmOk c (ratNum (feeT l [.bool b, .ints z]).2) (ratDen (feeT l [.bool b, .ints z]).2) mode, rmMoney c (ratNum (feeT l [.bool b, .ints z]).2) (ratDen (feeT l [.bool b, .ints z]).2) mode, rmRest c (ratNum (feeT l [.bool b, .ints z]).2) (ratDen (feeT l [.bool b, .ints z]).2) mode)
    else (false, zeroMoney, rat0)
  | _, _ => (false, zeroMoney, rat0)
theorem feeMT_facts (l : List (List D0)) (dx : List D0) (m : Int) : ((feeMT l dx m).2.1).map D0.code = [.str, .bool, .ints] /\ tcnts (feeMT l dx m).2.1 <= 1000000000 /\ ((feeMT l dx m).2.2).map D0.code = [.bool, .ints, .ints] /\ tcnts (feeMT l dx m).2.2 <= 1000000000 := by
  unfold feeMT
  split
  · split
    · exact ⟨rmMoney_code _ _ _ _, rmMoney_cnt _ _ _ _, rmRest_code _ _ _ _, rmRest_cnt _ _ _ _⟩
    · exact ⟨rfl, by decide, rfl, by decide⟩
  · exact ⟨rfl, by decide, rfl, by decide⟩
theorem fee_facts {l : List (List D0)} (hc : ∀ x ∈ l, x.map D0.code = [.int, .bool, .ints, .int]) {b : Bool} {z : List Int} (h : (feeT l [.bool b, .ints z]).1 = true) :
    ∃ N D, (feeT l [.bool b, .ints z]).2 = rmk N D /\ ratOk (rmk N D) = true /\ (digs N.natAbs).length <= 10 /\ (digs D).length <= 6 /\ ratNum (feeT l [.bool b, .ints z]).2 = N /\ ratDen (feeT l [.bool b, .ints z]).2 = D := by
  cases hok : (stepsOk l && intOk [.bool b, .ints z] && decide (z.length <= 4)) with
  | false => simp [feeT, hok] at h
  | true =>
    simp only [feeT, hok, if_true]
    simp only [Bool.and_eq_true, decide_eq_true_eq] at hok
    obtain ⟨⟨hs, hi⟩, hz4⟩ := hok
    have hcan : Canon z := by
      obtain ⟨_, b', z', he, hcan, _⟩ := intOk_enc hi
      simp only [List.cons.injEq, D0.bool.injEq, D0.ints.injEq, and_true] at he
      obtain ⟨_, rfl⟩ := he
      exact hcan
    have hvb : val z < 1000000000000000000000000000000000000 := by
      have h1 := val_lt hcan.1
      have h2 : z.length = 0 ∨ z.length = 1 ∨ z.length = 2 ∨ z.length = 3 ∨ z.length = 4 := by omega
      rcases h2 with e | e | e | e | e <;> rw [e] at h1 <;> simp at h1 <;> omega
    simp only [stepsOk, Bool.and_eq_true, decide_eq_true_eq, List.all_eq_true, List.mem_range] at hs
    obtain ⟨⟨⟨hn1, hn8⟩, hz0⟩, hall⟩ := hs
    have hl := lastLe_lt l (val z) l.length
    have h1 := feeSum_bound hall hc hvb (List.range (lastLe l (val z) l.length + 1).toNat) (fun x hx => by have := List.mem_range.1 hx; omega)
    have h2 : feeSum l (val z) (List.range (lastLe l (val z) l.length + 1).toNat) <= 9 * (1000000000000000000000000000000000000 * 1000000000 * 1000000000000000000000000000000) := Nat.le_trans h1 (Nat.mul_le_mul_right _ (by rw [List.length_range]; omega))
    generalize feeSum l (val z) (List.range (lastLe l (val z) l.length + 1).toNat) = V at h2 ⊢
    obtain ⟨k1, k2, k3⟩ := fee_ok h2
    have k4 : (digs V).length <= 9 := by
      have h9 : (1000000000 : Nat) ^ 9 = 1000000000000000000000000000000000000000000000000000000000000000000000000000000000 := by decide
      exact digs_len 9 (by omega)
    have k5 : (digs (redN (V : Int) (10 ^ 30)).natAbs).length <= 9 := Nat.le_trans redN_len (by rw [Int.natAbs_natCast]; exact k4)
    have k6 : (digs (redD (V : Int) (10 ^ 30))).length <= 4 := Nat.le_trans redD_len (ten_len (by decide))
    refine ⟨redN (V : Int) (10 ^ 30), redD (V : Int) (10 ^ 30), k2, k3, by omega, by omega, ?_, ?_⟩
    · show ratNum (redR (V : Int) (10 ^ 30)) = _
      rw [k2, ratNum_rmk]
    · show ratDen (redR (V : Int) (10 ^ 30)) = _
      rw [k2, ratDen_rmk]
theorem impl_Fee_o {w : World} {p : Option Addr} {n c : Nat} {l : List (List D0)} {xs : List Value} {dx : List D0} (h : RowsR w 4 p n c l) (hc : ∀ x ∈ l, x.map D0.code = [.int, .bool, .ints, .int]) (g : Reps w xs dx) (gc : dx.map D0.code = [.str, .bool, .ints]) (mode : Int) (ht : Tab w) :
    Ret P n_impl_Fee [.slice p n c, .agg ⟨xs⟩, .int .i64 mode] w fun v w' => ∃ vs0 f0 vs1 f1, v = .tuple #[.agg ⟨vs0⟩, .agg ⟨vs1⟩, .bool (feeMT l dx mode).1] /\ Owns w' w.heap.size vs0 (feeMT l dx mode).2.1 f0 /\ f0.Nodup /\ Owns w' w.heap.size vs1 (feeMT l dx mode).2.2 f1 /\ f1.Nodup /\ (∀ k ∈ f0, k ∉ f1) /\ Ext w w' := by
  have gr := g
  obtain ⟨cur, a0, ap, an, ac, az, rfl, rfl, ha⟩ := open_Money g gc
  refine impl_Fee_ret ?_
  unfold impl_Fee
  intro r w1 hn1 r1 w2 hn2 r2 w3 hn3
  have e1 := hn1.r_eq; have e2 := hn2.r_eq; have e3 := hn3.r_eq; have z1 := hn1.size; have z2 := hn2.size; have z3 := hn3.size
  have X := (hn1.ext.trans hn2.ext).trans hn3.ext
  have b0 := (hn1.blk.ext hn2.ext).ext hn3.ext; have b1 := hn2.blk.ext hn3.ext; have b2 := hn3.blk
  have unit : ∀ W, Ext w W -> Reps W [.bool a0, .slice ap an ac] [.bool a0, .ints az] := fun W hW => (gr.ext hW).2
  have zero : ∀ W, Ext w3 W -> (moneyOk [.str cur, .bool a0, .ints az] && (feeT l [.bool a0, .ints az]).1) = false -> ∃ W1, Stores P T_impl_Money ⟨r1, 0, none⟩ (.agg ⟨[.string ByteArray.empty, .bool false, .slice none 0 0]⟩) W W1 /\ ∃ W2, Stores P T_impl_Rat ⟨r2, 0, none⟩ (.agg ⟨[.bool false, .slice none 0 0, .slice none 0 0]⟩) W1 W2 /\ Loads P T_impl_Money ⟨r1, 0, none⟩ (.agg ⟨[.string ByteArray.empty, .bool false, .slice none 0 0]⟩) W2 /\ Loads P T_impl_Rat ⟨r2, 0, none⟩ (.agg ⟨[.bool false, .slice none 0 0, .slice none 0 0]⟩) W2 /\ Owns W2 w.heap.size [.string ByteArray.empty, .bool false, .slice none 0 0] zeroMoney [] /\ Owns W2 w.heap.size [.bool false, .slice none 0 0, .slice none 0 0] rat0 [] /\ Ext w W2 /\ feeMT l [.str cur, .bool a0, .ints az] mode = (false, zeroMoney, rat0) := by
    intro W hW hno
    obtain ⟨W1, W2, a1, _, a2, a3, a4, a5, a6, a7⟩ := two_end (t1 := T_impl_Money) (t2 := T_impl_Rat) (b1.ext hW) (b2.ext hW) (X.trans hW) (own_money0 W (r2 + 1)) (own_rat0 W (r2 + 1)) (by kernel_rfl) rfl (by kernel_rfl) rfl (by omega) (by omega) (by omega) (by omega) (by omega) (by omega)
    exact ⟨W1, a1, W2, a2, a3, a4, a5, a6, a7, by simp only [feeMT, hno, Bool.false_eq_true, if_false]⟩
  refine ⟨_, _, _, _, _, b0.loadA0 (by kernel_rfl), ?_⟩
  refine Ret.at (impl_MoneyOk_c (ht.ext X) (gr.ext X) rfl) ?_
  rintro v w5 ⟨hv, y5⟩
  subst hv
  refine ⟨_, rfl, ifN (fun hno => ?_) (fun hm => ⟨_, _, _, _, (b0.ext y5).loadAAt 1 [.bool a0, .slice ap an ac] rfl (by kernel_rfl) rfl, ?_⟩)⟩
  · obtain ⟨W1, a1, W2, a2, a3, a4, a5, a6, a7, a8⟩ := zero _ y5 (by rw [hno]; rfl)
    rw [a8]
    exact ⟨W1, a1, W2, a2, _, _, _, _, _, a3, _, _, _, _, _, _, _, a4, _, [], _, [], rfl, a5, List.nodup_nil, a6, List.nodup_nil, fun k hk => by simp at hk, a7⟩
  refine Ret.at (impl_FeeExact_c (h.ext (X.trans y5)) hc (unit _ (X.trans y5)) rfl) ?_
  rintro v w6 ⟨vs6, f6, hv, ho6, _, hcd, _, y6⟩
  subst hv
  obtain ⟨g0, gp, gn, gc', gz, gp2, gn2, gc2, gz2, rfl, _, _, _⟩ := open_Rat ho6.reps hcd
  have Y6 := y5.trans y6
  refine ⟨_, _, _, _, _, _, _, _, rfl, ?_⟩
  intro r3 w7 hn7
  have e7 := hn7.r_eq; have z7 := hn7.size
  obtain ⟨w8, st8, bk8, y8⟩ := hn7.fill (P := P) (t := T_impl_Rat) ho6.reps.cells1 (by kernel_rfl) rfl
  have YY := Y6.trans y8
  refine ⟨w8, st8, ifN (fun hno => ?_) (fun hf => ?_)⟩
  · obtain ⟨W1, a1, W2, a2, a3, a4, a5, a6, a7, a8⟩ := zero _ YY (by rw [hno, Bool.and_false])
    rw [a8]
    exact ⟨W1, a1, W2, a2, _, _, _, _, _, a3, _, _, _, _, _, _, _, a4, _, [], _, [], rfl, a5, List.nodup_nil, a6, List.nodup_nil, fun k hk => by simp at hk, a7⟩
  obtain ⟨N, D, hR, hok, hNl, hDl, hNe, hDe⟩ := fee_facts hc hf
  have hN : ∀ W, Ext w3 W -> feeMT l [.str cur, .bool a0, .ints az] mode = (rmOk cur N D mode, rmMoney cur N D mode, rmRest cur N D mode) := fun _ _ => by
    simp only [feeMT, hm, hf, Bool.and_self, if_true, hNe, hDe]
  rw [hN _ (Ext.refl _)]
  rw [hR] at ho6
  refine ⟨_, (b0.ext YY).loadAt 0 rfl (by kernel_rfl) rfl, _, _, _, _, _, _, _, bk8.loadA0 (by kernel_rfl), ?_⟩
  refine Ret.at (impl_RatMoney_n (m := mode) cur (ho6.reps.ext y8) hok hNl hDl (ht.ext (X.trans YY))) ?_
  rintro v w16 ⟨vs16, f16, vsr, fr, hv, ho16, nd16, hor, ndr, dis, y16⟩
  subst hv
  obtain ⟨m0, m1, mp, mn, mc, mz, rfl, _, _⟩ := open_Money ho16.reps (rmMoney_code _ _ _ _)
  obtain ⟨v0, vp, vn, vc, vz, vp2, vn2, vc2, vz2, rfl, _, _, _⟩ := open_Rat hor.reps (rmRest_code _ _ _ _)
  have Y16 := YY.trans y16
  have lYY := YY.le
  obtain ⟨W1, W2, a1, _, a2, a3, a4, a5, a6, a7⟩ := two_end (t1 := T_impl_Money) (t2 := T_impl_Rat) (b1.ext Y16) (b2.ext Y16) (X.trans Y16) ho16 hor (by kernel_rfl) rfl (by kernel_rfl) rfl (by omega) (by omega) (by omega) (by omega) (by omega) (by omega)
  exact ⟨_, _, _, _, _, _, _, _, _, _, _, _, _, rfl, W1, a1, W2, a2, _, _, _, _, _, a3, _, _, _, _, _, _, _, a4, _, f16, _, fr, rfl, a5, nd16, a6, ndr, dis, a7⟩
theorem impl_Fee_c {w : World} {p : Option Addr} {n c : Nat} {l : List (List D0)} {xs : List Value} {dx : List D0} (h : RowsR w 4 p n c l) (hc : ∀ x ∈ l, x.map D0.code = [.int, .bool, .ints, .int]) (g : Reps w xs dx) (gc : dx.map D0.code = [.str, .bool, .ints]) (mode : Int) (ht : Tab w) :
    Ret P n_impl_Fee [.slice p n c, .agg ⟨xs⟩, .int .i64 mode] w fun v w' => ∃ vs0 f0 vs1 f1, v = .tuple #[.agg ⟨vs0⟩, .agg ⟨vs1⟩, .bool (feeMT l dx mode).1] /\ Owns w' w.heap.size vs0 (feeMT l dx mode).2.1 f0 /\ f0.Nodup /\ ((feeMT l dx mode).2.1).map D0.code = [.str, .bool, .ints] /\ tcnts (feeMT l dx mode).2.1 <= 1000000000 /\ Owns w' w.heap.size vs1 (feeMT l dx mode).2.2 f1 /\ f1.Nodup /\ ((feeMT l dx mode).2.2).map D0.code = [.bool, .ints, .ints] /\ tcnts (feeMT l dx mode).2.2 <= 1000000000 /\ (∀ k ∈ f0, k ∉ f1) /\ Ext w w' :=
  (impl_Fee_o h hc g gc mode ht).mono fun v w' ⟨vs0, f0, vs1, f1, hv, o0, n0, o1, n1, dis, hx⟩ => ⟨vs0, f0, vs1, f1, hv, o0, n0, (feeMT_facts l dx mode).1, (feeMT_facts l dx mode).2.1, o1, n1, (feeMT_facts l dx mode).2.2.1, (feeMT_facts l dx mode).2.2.2, dis, hx⟩
end Go.Proofs.YtgbknjdjbahdkaaGreatDoor
namespace Go.Proofs.YtgbknjdjbahdkaaGreatDoor
open Go Go.Proofs.YtgbknjdjbahdkaaGreatDoor.Sx
theorem sOk_of {l : List (List D0)} (h1 : 1 <= l.length /\ l.length <= 8) (h0 : stepFrom (l.getD 0 []) = 0)
    (hr : ∀ i < l.length, 0 <= stepFrom (l.getD i []) /\ stepFrom (l.getD i []) <= 1000000000 /\ taxOk ((l.getD i []).drop 1) = true)
    (hi : ∀ i, i + 1 < l.length -> stepFrom (l.getD i []) < stepFrom (l.getD (i + 1) [])) : stepsOk l = true := by
  refine steps_yes h1 h0 fun i hil => ?_
  obtain ⟨a, b, c⟩ := hr i hil
  simp only [stepOk, Bool.and_eq_true, decide_eq_true_eq, Bool.not_eq_true', Bool.and_eq_false_iff, decide_eq_false_iff_not]
  refine ⟨⟨⟨a, b⟩, c⟩, ?_⟩
  by_cases h : 0 < i
  · right
    have := hi (i - 1) (by omega)
    rw [show i - 1 + 1 = i by omega] at this
    omega
  · left; exact h
theorem rate_txt : ∀ z ∈ rateNums, ∀ s ∈ rateScales, taxOk (tpR (percentT (enc z ++ [.int s]))) = true /\ (percentT (enc z ++ [.int s])).data.toList.all (fun c => c != 58 && c != 44) = true := by decide +kernel
structure StepF (x : List D0) (F m t : Nat) (dr : List D0) : Prop where
  form : x = .int (F : Int) :: dr
  rate : RateF dr m t
  le : F <= 2703
  txt : taxOk (tpR (percentT dr)) = true /\ (percentT dr).data.toList.all (fun c => c != 58 && c != 44) = true
theorem step_facts {x : List D0} (h : StepD x) : ∃ F m t dr, StepF x F m t dr := by
  obtain ⟨F, z, s, rfl, h0, h1, hz, hs⟩ := h
  obtain ⟨m, t, R⟩ := rate_facts hz hs
  exact ⟨F.toNat, m, t, _, by rw [Int.toNat_of_nonneg h0], R, by omega, rate_txt z hz s hs⟩
theorem StepF.from {x : List D0} {F m t : Nat} {dr : List D0} (h : StepF x F m t dr) : stepFrom x = F := by rw [h.form]; rfl
theorem StepF.tail {x : List D0} {F m t : Nat} {dr : List D0} (h : StepF x F m t dr) : x.drop 1 = dr := by rw [h.form]; rfl
theorem StepF.code {x : List D0} {F m t : Nat} {dr : List D0} (h : StepF x F m t dr) : x.map D0.code = [.int, .bool, .ints, .int] := by rw [h.form, h.rate.form]; rfl
theorem StepF.nums {x : List D0} {F m t : Nat} {dr : List D0} (h : StepF x F m t dr) : rateM x = m /\ rateT x = t := by
  rw [h.form, h.rate.form]
  refine ⟨?_, by show ((t : Nat) : Int).toNat = t; omega⟩
  show (val (digs m)).toNat = m
  rw [val_digs]; omega
def sF (l : List (List D0)) (j : Nat) : Int := stepFrom (l.getD j [])
def rN (l : List (List D0)) (j : Nat) : Nat := rateM (l.getD j []) * 10 ^ (30 - rateT (l.getD j []))
theorem StepsD.at {l : List (List D0)} {top : Int} (h : StepsD l top) {j : Nat} (hj : j < l.length) : ∃ F m t dr, StepF (l.getD j []) F m t dr := by
  rw [getD_lt hj]
  exact step_facts (h.row _ (List.getElem_mem hj))
theorem StepsD.codes {l : List (List D0)} {top : Int} (h : StepsD l top) : ∀ x ∈ l, x.map D0.code = [.int, .bool, .ints, .int] := fun x hx => by
  obtain ⟨F, m, t, dr, f⟩ := step_facts (h.row x hx)
  exact f.code
theorem StepsD.nn {l : List (List D0)} {top : Int} (h : StepsD l top) {j : Nat} (hj : j < l.length) : 0 <= sF l j /\ sF l j <= 2703 := by
  obtain ⟨F, m, t, dr, f⟩ := h.at hj
  have := f.le
  unfold sF
  rw [f.from]; omega
theorem StepsD.ok {l : List (List D0)} {top : Int} (h : StepsD l top) (h4 : l.length <= 4) : stepsOk l = true := by
  refine sOk_of ⟨h.pos, by omega⟩ h.head (fun i hi => ?_) h.inc
  obtain ⟨F, m, t, dr, f⟩ := h.at hi
  have := f.le
  rw [f.from, f.tail]
  refine ⟨by omega, by omega, ?_⟩
  rw [f.rate.form]; exact f.rate.tax
theorem pow_split {t : Nat} (h : t <= 30) : 10 ^ t * 10 ^ (30 - t) = 10 ^ 30 := by rw [<- Nat.pow_add]; congr 1; omega
theorem rN_le {l : List (List D0)} {top : Int} (h : StepsD l top) {j : Nat} (hj : j < l.length) : rN l j <= 10 ^ 30 := by
  obtain ⟨F, m, t, dr, f⟩ := h.at hj
  unfold rN
  rw [f.nums.1, f.nums.2, <- pow_split (t := t) (by have := f.rate.sc; omega)]
  exact Nat.mul_le_mul_right _ f.rate.le
def preSum (l : List (List D0)) : Nat -> Nat
  | 0 => 0
  | j + 1 => preSum l j + (sF l (j + 1) - sF l j).toNat * rN l j
theorem feeV_eq (l : List (List D0)) (v : Int) (j : Nat) : feeV l v j = (endOf l v j - sF l j).toNat * rN l j := by
  unfold feeV rN sF; rw [Nat.mul_assoc]
theorem fee_cut {l : List (List D0)} {v : Int} : ∀ (k : Nat), (∀ j, j < k -> j + 1 < l.length /\ sF l (j + 1) <= v) -> feeSum l v (List.range k) = preSum l k
  | 0, _ => rfl
  | k + 1, h => by
    rw [List.range_succ, feeSum_snoc, fee_cut k (fun j hj => h j (by omega)), feeV_eq, preSum]
    obtain ⟨h1, h2⟩ := h k (by omega)
    have he : endOf l v k = sF l (k + 1) := by
      unfold endOf
      by_cases h3 : sF l (k + 1) < v
      · rw [if_pos ⟨h1, h3⟩]; rfl
      · rw [if_neg (fun hh => h3 hh.2)]; omega
    rw [he]
theorem fee_last {l : List (List D0)} {v : Int} {K : Nat} (hall : ∀ j, j < K -> j + 1 < l.length /\ sF l (j + 1) <= v) (hend : K + 1 < l.length -> v <= sF l (K + 1)) :
    feeSum l v (List.range (K + 1)) = preSum l K + (v - sF l K).toNat * rN l K := by
  rw [List.range_succ, feeSum_snoc, fee_cut K hall, feeV_eq]
  have he : endOf l v K = v := by
    unfold endOf
    rw [if_neg]
    rintro ⟨h1, h2⟩
    have h3 := hend h1
    unfold sF at h3
    omega
  rw [he]
theorem pre_le {l : List (List D0)} {top : Int} (h : StepsD l top) : ∀ (K : Nat), K < l.length -> preSum l K <= (sF l K).toNat * 10 ^ 30
  | 0, _ => Nat.zero_le _
  | K + 1, hK => by
    have ih := pre_le h K (by omega)
    have h1 := h.inc K hK
    have h2 := h.nn (j := K) (by omega)
    have h3 := rN_le h (j := K) (by omega)
    have h1' : sF l K < sF l (K + 1) := h1
    have h4 : (sF l (K + 1)).toNat = (sF l K).toNat + (sF l (K + 1) - sF l K).toNat := by omega
    rw [preSum, h4, Nat.add_mul]
    exact Nat.add_le_add ih (Nat.mul_le_mul_left _ h3)
theorem last_step {l : List (List D0)} {top : Int} (h : StepsD l top) (h4 : l.length <= 4) {v : Int} (hv : 0 <= v) :
    ∃ K : Nat, K < l.length /\ (∀ j, j <= K -> sF l j <= v) /\ (K + 1 < l.length -> v < sF l (K + 1)) /\ lastLe l v l.length = (K : Int) := by
  obtain ⟨n, hK, hK1, hK2⟩ := upto_le (fun j => decide (sF l j <= v)) l.length
  have hp := h.pos
  have h0 : sF l 0 = 0 := h.head
  have hall : ∀ i < l.length, stepOk l i = true := by
    have := h.ok h4
    simp only [stepsOk, Bool.and_eq_true, List.all_eq_true] at this
    exact fun i hi => this.2 i (List.mem_range.2 hi)
  have a1 : ∀ j, j < n -> stepFrom (l.getD j []) <= v := fun j hj => of_decide_eq_true (hK1 j hj)
  have a2 : n < l.length -> v < stepFrom (l.getD n []) := fun hn => by
    have := of_decide_eq_false (hK2 hn)
    unfold sF at this
    omega
  have hr := lastLe_range rfl hK a1 a2 hp h.head hall
  have hn0 : 0 < n := by
    rcases Nat.eq_zero_or_pos n with hz | hz
    · subst hz
      have := a2 (by omega)
      unfold sF at h0
      omega
    · exact hz
  obtain ⟨K, rfl⟩ : ∃ K, n = K + 1 := ⟨n - 1, by omega⟩
  rw [List.range_succ, lastI_snoc] at hr
  exact ⟨K, by omega, fun j hj => a1 j (by omega), a2, hr.symm⟩
theorem feeT_nat {l : List (List D0)} {n : Nat} (hok : stepsOk l = true) (hn : n <= 4000) : feeT l (enc (n : Int)) = (true, redR ((feeSum l (n : Int) (List.range (lastLe l (n : Int) l.length + 1).toNat) : Nat) : Int) (10 ^ 30)) := by
  have hl : (digs n).length <= 1 := digs_len 1 (by omega)
  have hi : intOk (enc (n : Int)) = true := enc_ok (by rw [Int.natAbs_natCast]; omega)
  rw [enc_nat] at hi ⊢
  unfold feeT
  simp only
  rw [hok, hi, decide_eq_true (show (digs n).length <= 4 by omega), val_digs]
  rfl
theorem stepAt_nat {l : List (List D0)} {n : Nat} (hok : stepsOk l = true) (hn : n <= 4000) : stepAt l (enc (n : Int)) = lastLe l (n : Int) l.length := by
  have hl : (digs n).length <= 1 := digs_len 1 (by omega)
  have hi : intOk (enc (n : Int)) = true := enc_ok (by rw [Int.natAbs_natCast]; omega)
  rw [enc_nat] at hi ⊢
  unfold stepAt
  simp only
  rw [hok, hi, val_digs]
  rfl
theorem fee_pair {l : List (List D0)} {top : Int} (h : StepsD l top) (h4 : l.length <= 4) {n : Nat} (hn : n < 4000) :
    ∃ K V : Nat, K < l.length /\ stepAt l (enc (n : Int)) = K /\ feeT l (enc (n : Int)) = (true, redR (V : Int) (10 ^ 30)) /\ feeT l (enc ((n : Int) + 1)) = (true, redR ((V + rN l K : Nat) : Int) (10 ^ 30)) /\ V <= n * 10 ^ 30 := by
  have hok := h.ok h4
  obtain ⟨K, hK, hall, hend, hlast⟩ := last_step h h4 (v := (n : Int)) (by omega)
  obtain ⟨K', hK', hall', hend', hlast'⟩ := last_step h h4 (v := (n : Int) + 1) (by omega)
  have hnn := h.nn hK
  have hKn := hall K (Nat.le_refl _)
  have e1 : feeSum l (n : Int) (List.range (K + 1)) = preSum l K + ((n : Int) - sF l K).toNat * rN l K :=
    fee_last (fun j hj => ⟨by omega, hall (j + 1) (by omega)⟩) (fun hk => by have := hend hk; omega)
  have e2 : feeSum l ((n : Int) + 1) (List.range (K' + 1)) = preSum l K + ((n : Int) + 1 - sF l K).toNat * rN l K := by
    rcases Nat.lt_trichotomy K' K with hlt | heq | hgt
    · have a := hend' (by omega)
      have b := hall (K' + 1) (by omega)
      omega
    · subst heq
      exact fee_last (fun j hj => ⟨by omega, hall' (j + 1) (by omega)⟩) (fun hk => by have := hend' hk; omega)
    · have a := hall' (K + 1) (by omega)
      have b := hend (by omega)
      have e : sF l (K + 1) = (n : Int) + 1 := by omega
      have e3 : K' = K + 1 := by
        rcases Nat.lt_or_ge (K + 1) K' with hh | hh
        · have c := hall' (K + 2) (by omega)
          have d : sF l (K + 1) < sF l (K + 2) := h.inc (K + 1) (by omega)
          omega
        · omega
      subst e3
      rw [fee_last (fun j hj => ⟨by omega, hall' (j + 1) (by omega)⟩) (fun hk => by have := hend' hk; omega), preSum, e, Int.sub_self]
      simp
  have hstep : ((n : Int) + 1 - sF l K).toNat = ((n : Int) - sF l K).toNat + 1 := by omega
  refine ⟨K, preSum l K + ((n : Int) - sF l K).toNat * rN l K, hK, by rw [stepAt_nat hok (by omega), hlast], ?_, ?_, ?_⟩
  · rw [feeT_nat hok (by omega), hlast, show ((K : Int) + 1).toNat = K + 1 by omega, e1]
  · have := feeT_nat (n := n + 1) hok (by omega)
    rw [show (((n + 1 : Nat)) : Int) = (n : Int) + 1 by omega] at this
    rw [this, hlast', show ((K' : Int) + 1).toNat = K' + 1 by omega, e2, hstep, Nat.add_mul, Nat.one_mul, Nat.add_assoc]
  · have p := pre_le h K hK
    have q := Nat.mul_le_mul_left (((n : Int) - sF l K).toNat) (rN_le h hK)
    refine Nat.le_trans (Nat.add_le_add p q) ?_
    rw [<- Nat.add_mul]
    exact Nat.mul_le_mul_right _ (by omega)
end Go.Proofs.YtgbknjdjbahdkaaGreatDoor
namespace Go.Proofs.YtgbknjdjbahdkaaGreatDoor
open Go Go.Proofs.YtgbknjdjbahdkaaGreatDoor.Sx
def afterT (l : List (List D0)) : List D0 -> Int -> Bool × List D0
  | [.str c, .bool b, .ints z], mode =>
    if (feeMT l [.str c, .bool b, .ints z] mode).1 && !b then
      mres (alk [.str c, .bool b, .ints z] (feeMT l [.str c, .bool b, .ints z] mode).2.1) c (ival [.bool b, .ints z] - ival ((feeMT l [.str c, .bool b, .ints z] mode).2.1.drop 1))
    else (false, zeroMoney)
  | _, _ => (false, zeroMoney)
theorem mres_cnt (al : Bool) (c : ByteArray) (z : Int) : tcnts (mres al c z).2 <= 1000000000 := by
  unfold mres moneyMk
  split
  · split
    · rename_i h
      show tcnts (.str c :: enc z) <= 1000000000
      have := enc_cnt h
      omega
    · show tcnts zeroMoney <= 1000000000
      decide
  · show tcnts zeroMoney <= 1000000000
    decide
theorem afterT_facts (l : List (List D0)) (dx : List D0) (m : Int) : ((afterT l dx m).2).map D0.code = [.str, .bool, .ints] /\ tcnts (afterT l dx m).2 <= 1000000000 := by
  unfold afterT
  split
  · split
    · exact ⟨mres_code _ _ _, mres_cnt _ _ _⟩
    · exact ⟨rfl, by decide⟩
  · exact ⟨rfl, by decide⟩
theorem impl_AfterFee_c {w : World} {p : Option Addr} {n c : Nat} {l : List (List D0)} {xs : List Value} {dx : List D0} (h : RowsR w 4 p n c l) (hc : ∀ x ∈ l, x.map D0.code = [.int, .bool, .ints, .int]) (g : Reps w xs dx) (gc : dx.map D0.code = [.str, .bool, .ints]) (mode : Int) (ht : Tab w) :
    Ret P n_impl_AfterFee [.slice p n c, .agg ⟨xs⟩, .int .i64 mode] w fun v w' => ∃ vs f, v = .tuple #[.agg ⟨vs⟩, .bool (afterT l dx mode).1] /\ Owns w' w.heap.size vs (afterT l dx mode).2 f /\ f.Nodup /\ ((afterT l dx mode).2).map D0.code = [.str, .bool, .ints] /\ tcnts (afterT l dx mode).2 <= 1000000000 /\ Ext w w' := by
  obtain ⟨k1, k2⟩ := afterT_facts l dx mode
  have gr := g
  obtain ⟨cur, a0, ap, an, ac, az, rfl, rfl, ha⟩ := open_Money g gc
  refine impl_AfterFee_ret ?_
  unfold impl_AfterFee
  intro r w1 hn1 r1 w2 hn2
  have e1 := hn1.r_eq; have e2 := hn2.r_eq; have z1 := hn1.size; have z2 := hn2.size
  have X := hn1.ext.trans hn2.ext
  have b0 := hn1.blk.ext hn2.ext; have b1 := hn2.blk
  refine ⟨_, _, _, _, _, b0.loadA0 (by kernel_rfl), ?_⟩
  refine Ret.at (impl_Fee_o (h.ext X) hc (gr.ext X) rfl mode (ht.ext X)) ?_
  rintro v w3 ⟨vs0, f0, vs1, f1, hv, o0, nd0, o1, nd1, dis, y3⟩
  subst hv
  obtain ⟨fc1, fc2, fc3, fc4⟩ := feeMT_facts l [.str cur, .bool a0, .ints az] mode
  have o0r := o0.reps
  obtain ⟨c2, b2, bp, bn, bc, bz, rfl, hfe, _⟩ := open_Money o0r fc1
  obtain ⟨u0, up, un, uc, uz, up2, un2, uc2, uz2, rfl, _, _, _⟩ := open_Rat o1.reps fc3
  refine ⟨_, _, _, _, _, _, _, _, _, _, _, _, _, rfl, ?_⟩
  intro r2 w4 hn4 r3 w5 hn5
  have e4 := hn4.r_eq; have e5 := hn5.r_eq; have z4 := hn4.size; have z5 := hn5.size
  have l3 := y3.le
  have Y5 := (y3.trans hn4.ext).trans hn5.ext
  obtain ⟨w6, st6, q2, ch6, z6⟩ := ((hn4.blk).ext hn5.ext).storeA0 (P := P) (t := T_impl_Money) (xs := [.string c2, .bool b2, .slice bp bn bc]) (by kernel_rfl) rfl o0r.cells1
  obtain ⟨w7, st7, q3, ch7, z7⟩ := (hn5.blk.chg ch6 (by simp; omega)).storeA0 (P := P) (t := T_impl_Rat) (xs := [.bool u0, .slice up un uc, .slice up2 un2 uc2]) (by kernel_rfl) rfl o1.reps.cells1
  have Y7 : Ext w2 w7 := (Y5.chg ch6 (by simp; omega)).chg ch7 (by simp; omega)
  have o7 := ((o0.ext (hn4.ext.trans hn5.ext)).chg ch6 (fun k hk hm => by have := (o0.lt k hk).2; simp at hm; omega)).chg ch7 (fun k hk hm => by have := (o0.lt k hk).2; simp at hm; omega)
  have q2' := q2.chg ch7 (by simp; omega)
  have l7 := Y7.le
  have zero : ∀ W, Ext w2 W -> ((feeMT l [.str cur, .bool a0, .ints az] mode).1 && !a0) = false -> ∃ W', Stores P T_impl_Money ⟨r1, 0, none⟩ (.agg ⟨[.string ByteArray.empty, .bool false, .slice none 0 0]⟩) W W' /\ ∃ (s0 : ByteArray) (sb : Bool) (sp : Option Addr) (sn sc : Nat), Loads P T_impl_Money ⟨r1, 0, none⟩ (.agg #[.string s0, .bool sb, .slice sp sn sc]) W' /\ (fun (v : Value) (w' : World) => ∃ vs f, v = .tuple #[.agg ⟨vs⟩, .bool (afterT l [.str cur, .bool a0, .ints az] mode).1] /\ Owns w' w.heap.size vs (afterT l [.str cur, .bool a0, .ints az] mode).2 f /\ f.Nodup /\ ((afterT l [.str cur, .bool a0, .ints az] mode).2).map D0.code = [.str, .bool, .ints] /\ tcnts (afterT l [.str cur, .bool a0, .ints az] mode).2 <= 1000000000 /\ Ext w w') (.tuple #[.agg #[.string s0, .bool sb, .slice sp sn sc], .bool false]) W' := by
    intro W hW hno
    have lW := hW.le
    obtain ⟨W', st', ld', ow', xx', _, _⟩ := agg_end (t := T_impl_Money) (b1.ext hW) (X.trans hW) (by omega) (own_money0 W (r1 + 1)) (by kernel_rfl) rfl (by omega) (by omega)
    have he : afterT l [.str cur, .bool a0, .ints az] mode = (false, zeroMoney) := by simp only [afterT, hno, Bool.false_eq_true, if_false]
    rw [he] at k1 k2 ⊢
    exact ⟨W', st', _, _, _, _, _, ld', _, [], rfl, ow', List.nodup_nil, k1, k2, xx'⟩
  refine ⟨w6, st6, w7, st7, ifN (fun hno => ifT (zero _ Y7 (by rw [hno]; rfl))) (fun hf => ⟨_, (b0.ext Y7).loadAt 1 rfl (by kernel_rfl) rfl, ifB (fun hneg => zero _ Y7 (by rw [hneg, Bool.not_true, Bool.and_false])) (fun hpos => ?_)⟩)⟩
  have he : afterT l [.str cur, .bool a0, .ints az] mode = mres (alk [.str cur, .bool a0, .ints az] [.str c2, .bool b2, .ints bz]) cur (ival [.bool a0, .ints az] - ival [.bool b2, .ints bz]) := by
    simp only [afterT]
    rw [if_pos (by rw [hf, hpos]; rfl), hfe]
    rfl
  refine ⟨_, _, _, _, _, (b0.ext Y7).loadA0 (by kernel_rfl), _, _, _, _, _, q2'.loadA0 (by kernel_rfl), ?_⟩
  have o7r := o7.reps
  rw [hfe] at o7r
  refine Ret.at (impl_MoneySub_n (gr.ext (X.trans Y7)) o7r (ht.ext (X.trans Y7))) ?_
  rintro v w8 ⟨vs8, f8, hv, ho8, nd8, y8⟩
  subst hv
  rw [<- he] at ho8 ⊢
  obtain ⟨m0, m1, mp, mn, mc, mz, rfl, _, _⟩ := open_Money ho8.reps k1
  obtain ⟨W', st', ld', ow', xx', _, _⟩ := agg_end (t := T_impl_Money) (b1.ext (Y7.trans y8)) (X.trans (Y7.trans y8)) (by omega) ho8 (by kernel_rfl) rfl (by omega) (by omega)
  exact ⟨_, _, _, _, _, _, rfl, W', st', _, _, _, _, _, ld', _, f8, rfl, ow', nd8, k1, k2, xx'⟩
end Go.Proofs.YtgbknjdjbahdkaaGreatDoor
namespace Go.Proofs.YtgbknjdjbahdkaaGreatDoor
open Go Go.Proofs.YtgbknjdjbahdkaaGreatDoor.Sx
abbrev curCHF : ByteArray := S [67, 72, 70]
theorem curCHF_known : curKnown curCHF = true := by decide +kernel
theorem pow30 : (10 : Nat) ^ 30 = 1000000000000000000000000000000 := by decide
theorem len18x {n : Nat} (h : n < 1000000000000000000000000000000000000000000000000000000000000000000000000) : (digs n).length <= 18 := Nat.le_trans (digs_len 8 (by omega)) (by decide)
theorem fee_rv {V n : Nat} (hV : V <= n * 10 ^ 30) (hn : n <= 4001) : RV (redR (V : Int) (10 ^ 30)) (V : Int) (10 ^ 30) := by
  have h1 : V <= 4001 * 10 ^ 30 := Nat.le_trans hV (Nat.mul_le_mul_right _ hn)
  rw [pow30] at h1
  exact (RV.red (N := (V : Int)) (D := 10 ^ 30) (by rw [pow30]; decide) (len18x (by rw [Int.natAbs_natCast]; omega)) (by have := ten_len (k := 30) (by decide); omega)).2
structure FeeM (l : List (List D0)) (n V : Nat) (X : Int) (Y : Nat) (f : Int) : Prop where
  fee : feeMT l (.str curCHF :: enc (n : Int)) 5 = (true, .str curCHF :: enc f, restR X Y 5)
  left : afterT l (.str curCHF :: enc (n : Int)) 5 = (true, .str curCHF :: enc ((n : Int) - f))
  pos : 0 < Y
  Yle : Y <= 10 ^ 30
  Xle : X.natAbs <= n * Y
  eqn : X * ((10 ^ 30 : Nat) : Int) = (V : Int) * (Y : Int)
  fle : f.natAbs <= n
  rest : RV (restR X Y 5) (X - f * Y) Y
theorem fee_money {l : List (List D0)} {n V : Nat} (hn : n <= 4000) (hV : V <= n * 10 ^ 30) (hf : feeT l (enc (n : Int)) = (true, redR (V : Int) (10 ^ 30))) : ∃ X Y f, FeeM l n V X Y f := by
  have r := fee_rv hV (by omega)
  obtain ⟨X, Y, k, hd, _, hY, hk, hN, hD⟩ := r
  have hX : X.natAbs * k = V := by
    have := congrArg Int.natAbs hN
    rw [Int.natAbs_mul, Int.natAbs_natCast, Int.natAbs_natCast] at this
    exact this.symm
  have hXle : X.natAbs <= n * Y := by
    refine Nat.le_of_mul_le_mul_right (c := k) ?_ hk
    rw [hX, Nat.mul_assoc, <- hD]; exact hV
  have hYle : Y <= 10 ^ 30 := by rw [hD]; exact Nat.le_mul_of_pos_right _ hk
  have hnear := rround_near (n := X) 5 hY
  obtain ⟨f, hfe⟩ : ∃ f, rround X Y 5 = f := ⟨_, rfl⟩
  have hfl : f.natAbs <= n := by
    rw [hfe] at hnear
    exact quot_le hXle hnear
  have o1 := money_mid curCHF_known (z := (n : Int)) (by omega)
  have o2 := money_mid curCHF_known (z := f) (by omega)
  have o3 := money_mid curCHF_known (z := (n : Int) - f) (by omega)
  have hr : rmOk curCHF X Y 5 = true := by unfold rmOk; rw [hfe, o2]; rfl
  have hfee : feeMT l (.str curCHF :: enc (n : Int)) 5 = (true, .str curCHF :: enc f, restR X Y 5) := by
    have hf' : feeT l [.bool (decide ((n : Int) < 0)), .ints (digs (n : Int).natAbs)] = (true, redR (V : Int) (10 ^ 30)) := hf
    have o1' : moneyOk [.str curCHF, .bool (decide ((n : Int) < 0)), .ints (digs (n : Int).natAbs)] = true := o1
    show feeMT l [.str curCHF, .bool (decide ((n : Int) < 0)), .ints (digs (n : Int).natAbs)] 5 = _
    unfold feeMT
    simp only
    rw [hf', o1', hd, ratNum_rmk, ratDen_rmk]
    unfold rmMoney rmRest
    rw [hr, hfe]
    rfl
  have hYle' := hYle
  rw [pow30] at hYle'
  refine ⟨X, Y, f, hfee, ?_, hY, hYle, hXle, ?_, hfl, ?_⟩
  · have hfee' : feeMT l [.str curCHF, .bool (decide ((n : Int) < 0)), .ints (digs (n : Int).natAbs)] 5 = (true, .str curCHF :: enc f, restR X Y 5) := hfee
    have hb : decide ((n : Int) < 0) = false := decide_eq_false (by omega)
    have ha : alk [.str curCHF, .bool (decide ((n : Int) < 0)), .ints (digs (n : Int).natAbs)] (.str curCHF :: enc f) = true := alk_enc o1 o2
    have hi : ival [.bool (decide ((n : Int) < 0)), .ints (digs (n : Int).natAbs)] = (n : Int) := ival_enc (n : Int)
    show afterT l [.str curCHF, .bool (decide ((n : Int) < 0)), .ints (digs (n : Int).natAbs)] 5 = _
    unfold afterT
    simp only
    rw [hfee']
    simp only
    rw [ha, hi, hb]
    show mres true curCHF ((n : Int) - ival (enc f)) = _
    rw [ival_enc]
    unfold mres moneyMk
    rw [o3]; rfl
  · rw [hN, hD, Int.natCast_mul, Int.mul_right_comm, Int.mul_assoc]
  · unfold restR
    have e : X * ((1 : Nat) : Int) + -(rround X Y 5) * (Y : Int) = X - f * Y := by
      rw [hfe]
      show X * 1 + _ = _
      rw [Int.mul_one, Int.neg_mul]; omega
    rw [e, Nat.mul_one]
    rw [hfe] at hnear
    exact (RV.red hY (len18x (by omega)) (len18x (by omega))).2
theorem sgn_zero {z : Int} (h : z = 0) : sgn z = 0 := by rw [h]; rfl
theorem cmp_unit {V m t : Nat} (ht : t <= 30) :
    sgn ((((V + m * 10 ^ (30 - t) : Nat) : Int) * ((10 ^ 30 : Nat) : Int) + -(V : Int) * ((10 ^ 30 : Nat) : Int)) * ((10 ^ t : Nat) : Int) - (m : Int) * ((10 ^ 30 * 10 ^ 30 : Nat) : Int)) = 0 := by
  refine sgn_zero ?_
  have h := pow_split ht
  have h2 : ((10 ^ 30 * 10 ^ 30 : Nat) : Int) = ((10 ^ t : Nat) : Int) * ((10 ^ (30 - t) : Nat) : Int) * ((10 ^ 30 : Nat) : Int) := by
    rw [<- Int.natCast_mul, <- Int.natCast_mul, h]
  rw [h2, Int.natCast_add, Int.natCast_mul, <- Int.add_mul]
  generalize ((10 ^ t : Nat) : Int) = A
  generalize ((10 ^ (30 - t) : Nat) : Int) = B
  generalize ((10 ^ 30 : Nat) : Int) = E
  have e : (V : Int) + (m : Int) * B + -(V : Int) = (m : Int) * B := by omega
  rw [e]
  have : (m : Int) * B * E * A = (m : Int) * (A * B * E) := by
    rw [Int.mul_assoc (m : Int) B E, Int.mul_assoc, Int.mul_comm (B * E) A, <- Int.mul_assoc A B E]
  rw [this]; omega
theorem cmp_most {V n : Nat} (hV : V <= n * 10 ^ 30) : ¬ 0 < sgn ((V : Int) * ((1 : Nat) : Int) - (n : Int) * ((10 ^ 30 : Nat) : Int)) := by
  have h : (V : Int) * ((1 : Nat) : Int) - (n : Int) * ((10 ^ 30 : Nat) : Int) <= 0 := by
    have : (V : Int) <= (n : Int) * ((10 ^ 30 : Nat) : Int) := by rw [<- Int.natCast_mul]; exact Int.ofNat_le.2 hV
    show (V : Int) * 1 - _ <= 0
    omega
  unfold sgn
  split
  · decide
  · split
    · decide
    · omega
theorem cmp_back {l : List (List D0)} {n V : Nat} {X : Int} {Y : Nat} {f : Int} (M : FeeM l n V X Y f) :
    sgn ((f * (Y : Int) + (X - f * Y) * ((1 : Nat) : Int)) * ((10 ^ 30 : Nat) : Int) - (V : Int) * ((1 * Y : Nat) : Int)) = 0 := by
  refine sgn_zero ?_
  have h1 : f * (Y : Int) + (X - f * Y) * ((1 : Nat) : Int) = X := by
    show f * (Y : Int) + (X - f * Y) * 1 = X
    omega
  rw [h1, Nat.one_mul, M.eqn]; omega
theorem impl_RatSub_v {w : World} {xs ys : List Value} {d1 d2 : List D0} {N1 N2 : Int} {D1 D2 : Nat} (h : Reps w xs d1) (g : Reps w ys d2) (r1 : RV d1 N1 D1) (r2 : RV d2 N2 D2) (h1 : (digs (N1 * D2 + -N2 * D1).natAbs).length <= 18) (h2 : (digs (D1 * D2)).length <= 18) :
    Ret P n_impl_RatSub [.agg ⟨xs⟩, .agg ⟨ys⟩] w fun v w' => ∃ vs d, v = .tuple #[.agg ⟨vs⟩, .bool true] /\ Reps w' vs d /\ RV d (N1 * D2 + -N2 * D1) (D1 * D2) /\ Ext w w' := by
  have p := Nat.mul_pos r1.pos r2.pos
  obtain ⟨n1, e1, k1, rfl, b1, c1, f1, rfl, rfl⟩ := r1
  obtain ⟨n2, e2, k2, rfl, b2, c2, f2, rfl, rfl⟩ := r2
  obtain ⟨x, y⟩ := RV.red_by (M := n1 * e2 + -n2 * e1) (E := e1 * e2) (k := k1 * k2) (N := n1 * k1 * ((e2 * k2 : Nat) : Int) + -(n2 * k2) * ((e1 * k1 : Nat) : Int)) (Nat.mul_pos f1 f2) p (by rw [<- Int.neg_mul, Int.natCast_mul, Int.natCast_mul, Int.natCast_mul, add_cross]) (by rw [Nat.mul_mul_mul_comm]) h1 h2
  refine (impl_RatSub_n h g b1 b2).mono ?_
  rintro v w' ⟨vs, f, hv, ho, _, hx⟩
  rw [x] at hv
  exact ⟨vs, _, hv, ho.reps, y, hx⟩
end Go.Proofs.YtgbknjdjbahdkaaGreatDoor
namespace Go.Proofs.YtgbknjdjbahdkaaGreatDoor
open Go Go.Proofs.YtgbknjdjbahdkaaGreatDoor.Sx
theorem cuts_join {c : UInt8} : ∀ (ps : List (List UInt8)), ps ≠ [] -> (∀ p ∈ ps, ∀ x ∈ p, x ≠ c) -> cuts c [] (Lib.join ps [c]) = ps
  | [], h, _ => absurd rfl h
  | [p], _, h => by rw [Lib.join_one, cuts_none (h p (by simp))]; rfl
  | p :: q :: r, _, h => by
    have ih := cuts_join (q :: r) (by simp) (fun y hy => h y (List.mem_cons_of_mem _ hy))
    rw [Lib.join_cons]
    have e : p ++ Lib.joinTail [c] (q :: r) = p ++ c :: Lib.join (q :: r) [c] := by
      rw [Lib.join_cons]
      show p ++ ([c] ++ q ++ Lib.joinTail [c] r) = _
      simp
    rw [e, cuts_dot (h p (by simp)), ih]; rfl
def unT (x : List D0) : List D0 := .int (stepFrom x) :: tpR (percentT (x.drop 1))
theorem stepT_bytes {x : List D0} {F m t : Nat} {dr : List D0} (h : StepF x F m t dr) : (stepT x).data.toList = Lib.decDigits F ++ 58 :: (percentT dr).data.toList := by
  rw [h.form, h.rate.form]
  show ((itxt ((F : Nat) : Int).toNat ++ S [58]) ++ percentT [.bool false, .ints (digs m), .int (t : Int)]).data.toList = _
  rw [ByteArray.data_append, ByteArray.data_append, Array.toList_append, Array.toList_append, Int.toNat_natCast]
  have : (itxt F).data.toList = Lib.decDigits F := by simp [itxt]
  rw [this]
  show Lib.decDigits F ++ [58] ++ _ = _
  simp
theorem pct_no {l : List UInt8} (h : l.all (fun c => c != 58 && c != 44) = true) : ∀ x ∈ l, x ≠ 58 /\ x ≠ 44 := fun x hx => by
  have := List.all_eq_true.1 h x hx
  simp only [Bool.and_eq_true, bne_iff_ne, ne_eq] at this
  exact this
theorem dig_no (F : Nat) : ∀ x ∈ Lib.decDigits F, x ≠ 58 /\ x ≠ 44 := fun x hx => by
  have := dig_le (List.all_eq_true.1 (dec_all F) x hx)
  refine ⟨fun hh => ?_, fun hh => ?_⟩ <;> subst hh
  · exact absurd this.2 (by decide)
  · exact absurd this.1 (by decide)
theorem step_no {x : List D0} {F m t : Nat} {dr : List D0} (h : StepF x F m t dr) : ∀ c ∈ (stepT x).data.toList, c ≠ 44 := fun c hc => by
  rw [stepT_bytes h] at hc
  rcases List.mem_append.1 hc with hc | hc
  · exact (dig_no F c hc).2
  · rcases List.mem_cons.1 hc with rfl | hc
    · decide
    · exact (pct_no h.txt.2 c hc).2
theorem stR_step {x : List D0} {F m t : Nat} {dr : List D0} (h : StepF x F m t dr) : stR (stepT x).data.toList = some (unT x) := by
  have hc : cuts 58 [] (stepT x).data.toList = [Lib.decDigits F, (percentT dr).data.toList] := by
    rw [stepT_bytes h, cuts_dot (fun c hc => (dig_no F c hc).1), cuts_none (fun c hc => (pct_no h.txt.2 c hc).1)]; rfl
  have hn : tiV (BA (Lib.decDigits F)) = some ((F : Nat) : Int) := by
    have := h.le
    refine tiV_itoa (by omega) (by omega) ?_
    rw [BA_data]
    unfold Lib.itoa
    rw [if_neg (by omega), Int.toNat_natCast]
  have ht : tpOk (BA (percentT dr).data.toList) = true := by rw [BA_eq]; exact h.rate.pct.1
  rw [stR_make hc hn ht, BA_eq]
  unfold unT
  rw [h.from, h.tail]
theorem stL_steps : ∀ {l : List (List D0)}, (∀ x ∈ l, StepD x) -> stL (l.map fun x => (stepT x).data.toList) = some (l.map unT)
  | [], _ => rfl
  | x :: r, h => by
    obtain ⟨F, m, t, dr, f⟩ := step_facts (h x (by simp))
    rw [List.map_cons, List.map_cons, stL, stR_step f]
    simp only
    rw [stL_steps (fun y hy => h y (List.mem_cons_of_mem _ hy))]
theorem steps_cuts {l : List (List D0)} {top : Int} (h : StepsD l top) (h4 : l.length <= 4) : cuts 44 [] (stepsT l).data.toList = l.map fun x => (stepT x).data.toList := by
  have hb : (stepsT l).data.toList = Lib.join (l.map fun x => (stepT x).data.toList) [44] := by
    unfold stepsT
    rw [if_pos (h.ok h4)]
    unfold joinT
    rw [List.map_map]
    show (Lib.join (l.map fun x => (stepT x).data.toList) [44]).toArray.toList = _
    simp
  rw [hb]
  refine cuts_join _ (fun hh => ?_) (fun p hp => ?_)
  · have := h.pos
    rw [List.map_eq_nil_iff] at hh
    rw [hh] at this; simp at this
  · obtain ⟨x, hx, rfl⟩ := List.mem_map.1 hp
    obtain ⟨F, m, t, dr, f⟩ := step_facts (h.row x hx)
    exact step_no f
theorem unT_getD {l : List (List D0)} {i : Nat} (hi : i < l.length) : (l.map unT).getD i [] = unT (l.getD i []) := by
  rw [getD_lt hi, getD_lt (by simpa using hi), List.getElem_map]
theorem unT_ok {l : List (List D0)} {top : Int} (h : StepsD l top) (h4 : l.length <= 4) : stepsOk (l.map unT) = true := by
  have hp := h.pos
  have hl : (l.map unT).length = l.length := by simp
  refine sOk_of (by omega) ?_ (fun i hi => ?_) (fun i hi => ?_)
  · rw [unT_getD (by omega)]; exact h.head
  · rw [hl] at hi
    obtain ⟨F, m, t, dr, f⟩ := h.at hi
    have := f.le
    rw [unT_getD hi]
    refine ⟨?_, ?_, ?_⟩
    · show 0 <= stepFrom (l.getD i [])
      rw [f.from]; omega
    · show stepFrom (l.getD i []) <= _
      rw [f.from]; omega
    · show taxOk (tpR (percentT ((l.getD i []).drop 1))) = true
      rw [f.tail]; exact f.txt.1
  · rw [hl] at hi
    rw [unT_getD (by omega), unT_getD hi]
    exact h.inc i hi
theorem steps_back {l : List (List D0)} {top : Int} (h : StepsD l top) (h4 : l.length <= 4) : tsOk (stepsT l) = true /\ stepsT (tsR (stepsT l)) = stepsT l /\ (stepsT l).size <= 1048576 := by
  have hs : stL (cuts 44 [] (stepsT l).data.toList) = some (l.map unT) := by rw [steps_cuts h h4]; exact stL_steps h.row
  have hok := unT_ok h h4
  have hv : tsV (stepsT l) = some (l.map unT) := by rw [tsV_end hs, if_pos hok]
  refine ⟨by unfold tsOk; rw [hv]; rfl, ?_, ?_⟩
  · unfold tsR
    rw [hv]
    exact steps_text hs hok
  · unfold stepsT
    rw [if_pos (h.ok h4)]
    have hh := joinT_size (b := S [44]) (k := 300) (l := l.map stepT) (fun y hy => by
      obtain ⟨x, hx, rfl⟩ := List.mem_map.1 hy
      obtain ⟨F, m, t, dr, f⟩ := step_facts (h.row x hx)
      exact stepT_size f.code (by rw [f.from]; have := f.le; omega))
    rw [List.length_map, show (S [44]).size = 1 from rfl] at hh
    have := Nat.mul_le_mul_right (300 + 1) h4
    omega
end Go.Proofs.YtgbknjdjbahdkaaGreatDoor
namespace Go.Proofs.YtgbknjdjbahdkaaGreatDoor
open Go Go.Proofs.YtgbknjdjbahdkaaGreatDoor.Sx
set_option maxRecDepth 20000
set_option maxHeartbeats 1000000
theorem mon_codeF (c : ByteArray) (z : Int) : (.str c :: enc z : List D0).map D0.code = [.str, .bool, .ints] := rfl
theorem ne_sgF {a b : Nat} (h : a ≠ b) : a ∉ [b] := fun hm => h (List.mem_singleton.1 hm)
theorem le_sgF {a b : Nat} (h : a <= b) : ∀ q ∈ [b], a <= q := fun q hq => by have := List.mem_singleton.1 hq; omega
theorem sub_len {V c : Nat} (hc : c <= 10 ^ 30) : (digs (((V + c : Nat) : Int) * ((10 ^ 30 : Nat) : Int) + -(V : Int) * ((10 ^ 30 : Nat) : Int)).natAbs).length <= 18 := by
  rw [Int.natCast_add, <- Int.add_mul, show (V : Int) + (c : Int) + -(V : Int) = (c : Int) by omega, <- Int.natCast_mul, Int.natAbs_natCast]
  rw [pow30] at hc ⊢
  exact len18x (by omega)
theorem sq_len : (digs (10 ^ 30 * 10 ^ 30)).length <= 18 := by
  rw [pow30]
  exact len18x (by omega)
theorem rows_decF {w : World} {p : Option Addr} {n c i : Nat} {l : List (List D0)} {F m t : Nat} {dr : List D0} (h : RowsR w 4 p n c l) (hi : i < n) (f : StepF (l.getD i []) F m t dr) :
    ∃ a b0 bp bn bc bs, p = some a /\ Reps w [.bool b0, .slice bp bn bc, .int .i64 bs] dr /\ ∀ W, Ext w W -> Loads P T_impl_Dec ((a.add (i * 4)).add 1) (.agg ⟨[.bool b0, .slice bp bn bc, .int .i64 bs]⟩) W := by
  obtain ⟨b, off, hp, hs⟩ := h.2.2.2 (by omega)
  have hl : i < l.length := by rw [h.1]; exact hi
  obtain ⟨cs, h1, h2, h3⟩ := hs i _ (List.getElem?_eq_getElem hl)
  rw [<- getD_lt (d := []) hl, f.form] at h2
  obtain ⟨v, vs, rfl⟩ : ∃ v vs, cs = v :: vs := by
    cases cs with
    | nil => simp at h1
    | cons v vs => exact ⟨v, vs, rfl⟩
  have r := h2.2
  obtain ⟨b0, bp, bn, bc, bz, bs, rfl, _, _⟩ := open_Dec r (by rw [f.rate.form]; rfl)
  refine ⟨_, b0, bp, bn, bc, bs, hp, r, fun W hW => ?_⟩
  rw [addr_add]
  exact (h3.ext hW).loadAAt 1 _ (by rw [addr_add]) (by kernel_rfl) rfl
theorem laws_FnFee_c {w : World} {p0 : Option Addr} {n0 c0 : Nat} (h0 : ByR w p0 n0) (ht : Tab w) (hp : TabP w) (he : TabE w) : Ret P n_laws_FnFee [.slice p0 n0 c0] w fun v w' => v = .bool true /\ Ext w w' := by
  have h := h0
  refine laws_FnFee_s_ret ?_
  unfold laws_FnFee_s
  refine ifD (fun _ => ⟨rfl, Ext.refl w⟩) (fun hs => ?_)
  have hn : n0 <= 1048576 := by omega
  refine Ret.at (spec_MakeSteps_c h hn) ?_
  rintro v w1 ⟨lp, ln, lc, l, top, rfl, hR, hD, h4, y1⟩
  refine ⟨_, _, _, rfl, ?_⟩
  refine Ret.at (spec_MakeNum_c (h.ext y1) hn (k := 4000) (by decide) (by decide)) ?_
  rintro v w2 ⟨z, rfl, z0, z1, y2⟩
  obtain ⟨n, rfl⟩ : ∃ n : Nat, z = n := ⟨z.toNat, by omega⟩
  have hn4 : n < 4000 := by omega
  obtain ⟨K, V, hK, hAt, hA, hB, hV⟩ := fee_pair hD h4 hn4
  obtain ⟨F, m, t, dr, sf⟩ := hD.at hK
  have hrN : rN l K = m * 10 ^ (30 - t) := by unfold rN; rw [sf.nums.1, sf.nums.2]
  have hrle := rN_le hD hK
  have hcs := hD.codes
  obtain ⟨sb1, sb2, sb3⟩ := steps_back hD h4
  have hlen : l.length = ln := hR.1
  obtain ⟨ad, k0, kp, kn, kc, ks, hlp, rK, ldK⟩ := rows_decF hR (i := K) (by omega) sf
  subst hlp
  have vA := fee_rv hV (by omega)
  have vB : RV (redR ((V + rN l K : Nat) : Int) (10 ^ 30)) ((V + rN l K : Nat) : Int) (10 ^ 30) := fee_rv (n := n + 1) (by rw [Nat.add_mul, Nat.one_mul]; omega) (by omega)
  refine ⟨_, rfl, ?_⟩
  -- the fee of the amount
  refine Ret.at (impl_IntOf_c (n := (n : Int)) (by omega) (by omega)) ?_
  rintro v w3 ⟨vs3, f3, rfl, o3, _, y3⟩
  have r3 := o3.reps
  obtain ⟨a0, ap, an, ac, az, rfl, _, _⟩ := open_Signed o3.reps (enc_code _)
  refine ⟨_, _, _, _, rfl, ?_⟩
  refine Ret.at (impl_FeeExact_c (hR.ext (y2.trans y3)) hcs r3 (enc_code _)) ?_
  rintro v w4 ⟨vs4, f4, hv, o4, _, _, _, y4⟩
  rw [hA] at hv o4
  subst hv
  have r4 := o4.reps
  obtain ⟨b0, bp, bn, bc, bz, cp, cn, cc, cz, rfl, _, _, _⟩ := open_Rat o4.reps vA.code
  refine ⟨_, _, _, _, _, _, _, _, rfl, ?_⟩
  intro r w5 hn5
  obtain ⟨w6, st6, bA, y6⟩ := hn5.fill (P := P) (t := T_impl_Rat) r4.cells1 (by kernel_rfl) rfl
  have rA := r4.ext y6
  have x := y1.trans (y2.trans (y3.trans (y4.trans y6)))
  have xR := y2.trans (y3.trans (y4.trans y6))
  refine ⟨w6, st6, exW ⟨by omega, by omega⟩ ?_⟩
  -- the fee of one unit more
  refine Ret.at (impl_IntOf_c (n := (n : Int) + 1) (by omega) (by omega)) ?_
  rintro v w7 ⟨vs7, f7, rfl, o7, _, y7⟩
  have r7 := o7.reps
  obtain ⟨d0, dp, dn, dc, dz, rfl, _, _⟩ := open_Signed o7.reps (enc_code _)
  refine ⟨_, _, _, _, rfl, ?_⟩
  refine Ret.at (impl_FeeExact_c (hR.ext (xR.trans y7)) hcs r7 (enc_code _)) ?_
  rintro v w8 ⟨vs8, f8, hv, o8, _, _, _, y8⟩
  rw [hB] at hv o8
  subst hv
  have r8 := o8.reps
  obtain ⟨e0, ep, en, ec, ez, gp, gn, gc, gz, rfl, _, _, _⟩ := open_Rat o8.reps vB.code
  refine ⟨_, _, _, _, _, _, _, _, rfl, ?_⟩
  intro r1 w9 hn9
  obtain ⟨w10, st10, bB, y10⟩ := hn9.fill (P := P) (t := T_impl_Rat) r8.cells1 (by kernel_rfl) rfl
  have rB := r8.ext y10
  have z10 := y7.trans (y8.trans y10)
  have bA := bA.ext z10; have rA := rA.ext z10
  have x := x.trans z10; have xR := xR.trans z10
  refine ⟨w10, st10, ?_⟩
  -- the step
  refine Ret.at (impl_IntOf_c (n := (n : Int)) (by omega) (by omega)) ?_
  rintro v w11 ⟨vs11, f11, rfl, o11, _, y11⟩
  have r11 := o11.reps
  obtain ⟨q0, qp, qn, qc, qz, rfl, _, _⟩ := open_Signed o11.reps (enc_code _)
  refine ⟨_, _, _, _, rfl, ?_⟩
  refine Ret.at (impl_StepAt_c (hR.ext (xR.trans y11)) hcs r11 (enc_code _)) ?_
  rintro v w12 ⟨rfl, y12⟩
  rw [hAt]
  have z12 := y11.trans y12
  refine ⟨_, rfl, _, _, _, _, _, _, _, (bB.ext z12).loadA0 (by kernel_rfl), _, _, _, _, _, _, _, (bA.ext z12).loadA0 (by kernel_rfl), ?_⟩
  refine Ret.at (impl_RatSub_v (rB.ext z12) (rA.ext z12) vB vA (sub_len hrle) sq_len) ?_
  rintro v w13 ⟨vs13, d13, rfl, r13, v13, y13⟩
  have r13c := r13
  obtain ⟨t0, tp, tn, tc, tz, up, un, uc, uz, rfl, _, _, _⟩ := open_Rat r13 v13.code
  refine ⟨_, _, _, _, _, _, _, _, rfl, ?_⟩
  refine Ret.at (laws_must_c r13c v13.code) ?_
  rintro v w14 ⟨hv, y14⟩
  cases hv
  refine ⟨_, _, _, _, _, _, _, rfl, ?_⟩
  intro r2 w15 hn15
  obtain ⟨w16, st16, bC, y16⟩ := hn15.fill (P := P) (t := T_impl_Rat) r13c.cells1 (by kernel_rfl) rfl
  have rC := r13c.ext (y14.trans y16)
  have z16 := z12.trans (y13.trans (y14.trans y16))
  have bA := bA.ext z16; have rA := rA.ext z16
  have x := x.trans z16; have xR := xR.trans z16
  refine ⟨w16, st16, ?_⟩
  -- the steps in words
  refine Ret.at (impl_StepsText_c (hR.ext xR) hcs (hp.ext x)) ?_
  rintro v w17 ⟨rfl, y17⟩
  refine ⟨_, rfl, ?_⟩
  refine Ret.at (impl_TextSteps_c (stepsT l) sb3 (hp.ext (x.trans y17)) (he.ext (x.trans y17))) ?_
  rintro v w18 ⟨sp, sn, sc, fs, hv, oS, cS, _, y18⟩
  rw [sb1] at hv
  subst hv
  have rS := oS.rows
  have D18 := Ext.drew w18
  have z18 := y17.trans (y18.trans D18)
  have bA := bA.ext z18; have rA := rA.ext z18; have bC := bC.ext z18; have rC := rC.ext z18
  have rS := rS.ext D18
  have x := x.trans z18; have xR := xR.trans z18
  refine ⟨_, _, _, _, rfl, fun e => absurd e (by simp), fun _ => ?_⟩
  unfold laws_FnFee_s_j0
  refine ⟨fun e => absurd e (by simp), fun _ => ?_⟩
  unfold laws_FnFee_s_j1
  refine ifD (fun e => absurd e (by omega)) (fun _ => ?_)
  refine ⟨_, _, _, _, _, _, _, fun W hW => (bC.ext hW).loadA0 (by kernel_rfl), ⟨by omega, by omega⟩, ?_⟩
  show ∃ (_ : Bool) (_ : Option Addr) (_ : Nat) (_ : Nat) (_ : Int), _
  rw [Int.toNat_natCast]
  refine ⟨k0, kp, kn, kc, ks, fun W hW => ldK W (xR.trans hW), ?_⟩
  have rK' := rK.ext xR
  rw [sf.rate.form] at rK'
  have hml : (digs m).length <= 6 := Nat.le_trans (digs_len 1 (by have := sf.rate.num; omega)) (by decide)
  refine Ret.at (impl_DecRat_v rK' hml (by have := sf.rate.sc; omega)) ?_
  rintro v w20 ⟨vs20, d20, rfl, r20, v20, y20⟩
  have r20c := r20
  obtain ⟨A0, Ap, An, Ac, Az, Bp, Bn, Bc, Bz, rfl, _, _, _⟩ := open_Rat r20 v20.code
  refine ⟨_, _, _, _, _, _, _, rfl, y20, ?_⟩
  refine Ret.at (impl_RatCmp_v (rC.ext y20) r20c v13 v20) ?_
  rintro v w21 ⟨hv, y21⟩
  have cu := cmp_unit (V := V) (m := m) (t := t) (by have := sf.rate.sc; omega)
  rw [<- hrN] at cu
  rw [cu] at hv
  subst hv
  have z21 := y20.trans y21
  refine ⟨_, rfl, ?_⟩
  unfold laws_FnFee_s_j2
  refine ⟨fun e => absurd e (by decide), fun _ => ?_⟩
  have bA := bA.ext z21; have rA := rA.ext z21; have rS := rS.ext z21
  have x := x.trans z21; have xR := xR.trans z21
  -- at most the amount
  refine ⟨_, _, _, _, _, _, _, fun W hW => (bA.ext hW).loadA0 (by kernel_rfl), ?_⟩
  refine Ret.at (impl_IntOf_c (n := (n : Int)) (by omega) (by omega)) ?_
  rintro v w22 ⟨vs22, f22, rfl, o22, _, y22⟩
  have r22 := o22.reps
  obtain ⟨C0, Cp, Cn, Cc, Cz, rfl, _, _⟩ := open_Signed o22.reps (enc_code _)
  refine ⟨_, _, _, _, rfl, y22, ?_⟩
  refine Ret.at (impl_RatInt_v r22 (by rw [Int.natAbs_natCast]; exact len18x (by omega))) ?_
  rintro v w23 ⟨vs23, d23, rfl, r23, v23, y23⟩
  have r23c := r23
  obtain ⟨D0', Dp, Dn, Dc, Dz, Ep, En, Ec, Ez, rfl, _, _, _⟩ := open_Rat r23 v23.code
  refine ⟨_, _, _, _, _, _, _, _, rfl, y23, ?_⟩
  refine Ret.at (laws_must_c r23c v23.code) ?_
  rintro v w24 ⟨hv, y24⟩
  cases hv
  refine ⟨_, _, _, _, _, _, _, rfl, y24, ?_⟩
  refine Ret.at (impl_RatCmp_v (rA.ext (y22.trans (y23.trans y24))) (r23c.ext y24) vA v23) ?_
  rintro v w25 ⟨rfl, y25⟩
  have z25 := y22.trans (y23.trans (y24.trans y25))
  refine ⟨_, rfl, ?_⟩
  rw [decide_eq_false (cmp_most hV)]
  unfold laws_FnFee_s_j3
  refine ⟨fun e => absurd e (by simp), fun _ => ?_⟩
  have bA := bA.ext z25; have rA := rA.ext z25; have rS := rS.ext z25
  have x := x.trans z25; have xR := xR.trans z25
  -- not below nothing
  refine ⟨_, _, _, _, _, _, _, fun W hW => (bA.ext hW).loadA0 (by kernel_rfl), ?_⟩
  refine Ret.at (impl_RatSign_c rA vA.code) ?_
  rintro v w26 ⟨rfl, y26⟩
  refine ⟨_, rfl, ?_⟩
  rw [decide_eq_false (fun e => absurd ((rsign_v vA).1 e) (by omega))]
  unfold laws_FnFee_s_j4
  refine ⟨fun e => absurd e (by simp), fun _ => ?_⟩
  unfold laws_FnFee_s_j5
  refine ⟨fun e => absurd e (by simp), fun _ => ?_⟩
  have bA := bA.ext y26; have rA := rA.ext y26; have rS := rS.ext y26
  have x := x.trans y26; have xR := xR.trans y26
  -- read back
  refine Ret.at (impl_StepsText_c rS cS (hp.ext x)) ?_
  rintro v w27 ⟨rfl, y27⟩
  refine ⟨_, rfl, ?_⟩
  refine Ret.at (impl_StepsText_c (hR.ext (xR.trans y27)) hcs (hp.ext (x.trans y27))) ?_
  rintro v w28 ⟨rfl, y28⟩
  refine ⟨_, rfl, ifD (fun hne => absurd sb2 hne) (fun _ => ?_)⟩
  have z28 := y27.trans y28
  have bA := bA.ext z28; have rA := rA.ext z28
  have x := x.trans z28; have xR := xR.trans z28
  unfold laws_FnFee_s_j6
  -- the amount as money
  obtain ⟨X, Y, f, FM⟩ := fee_money (by omega) hV hA
  have fl := FM.fle
  have ok1 := money_mid curCHF_known (z := (n : Int)) (by omega)
  have ok2 := money_mid curCHF_known (z := f) (by omega)
  have ok3 := money_mid curCHF_known (z := (n : Int) - f) (by omega)
  refine Ret.at (impl_MoneyOf_c curCHF (n := (n : Int)) (by omega) (by omega) (ht.ext x)) ?_
  rintro v w29 ⟨vs29, f29, hv, o29, _, y29⟩
  unfold moneyMk at o29
  rw [if_pos ok1] at o29
  rw [ok1] at hv
  subst hv
  have r29 := o29.reps
  obtain ⟨F0, F1, Fp, Fn, Fc, Fz, rfl, _, _⟩ := open_Money o29.reps (mon_codeF _ _)
  refine ⟨_, _, _, _, _, _, rfl, ?_⟩
  intro r3 w30 hn30
  obtain ⟨w31, st31, bM, y31⟩ := hn30.fill (P := P) (t := T_impl_Money) r29.cells1 (by kernel_rfl) rfl
  have rM := r29.ext y31
  have z31 := y29.trans y31
  have bA := bA.ext z31; have rA := rA.ext z31
  have x := x.trans z31; have xR := xR.trans z31
  refine ⟨w31, st31, _, _, _, _, _, bM.loadA0 (by kernel_rfl), ?_⟩
  refine Ret.at (impl_Fee_c (hR.ext xR) hcs rM (mon_codeF _ _) 5 (ht.ext x)) ?_
  rintro v w32 ⟨vs32, f32, us32, g32, hv, o32, _, _, _, q32, _, _, _, _, y32⟩
  rw [FM.fee] at hv o32 q32
  subst hv
  have rF := o32.reps; have rQ := q32.reps
  have rFc := rF; have rQc := rQ
  obtain ⟨G0, G1, Gp, Gn, Gc, Gz, rfl, _, _⟩ := open_Money rF (mon_codeF _ _)
  obtain ⟨H0, Hp, Hn, Hc, Hz, Ip, In, Ic, Iz, rfl, _, _, _⟩ := open_Rat rQ FM.rest.code
  refine ⟨_, _, _, _, _, _, _, _, _, _, _, _, _, rfl, ?_⟩
  intro r4' w33 hn33 r5 w34 hn34
  have e33 := hn33.r_eq; have e34 := hn34.r_eq; have s33 := hn33.size; have s34 := hn34.size
  obtain ⟨w35, st35, bF, ch35, _⟩ := (hn33.blk.ext hn34.ext).storeA0 (P := P) (t := T_impl_Money) (xs := [.string G0, .bool G1, .slice Gp Gn Gc]) (by kernel_rfl) rfl rFc.cells1
  obtain ⟨w36, st36, bQ, ch36, _⟩ := (hn34.blk.chg ch35 (ne_sgF (by omega))).storeA0 (P := P) (t := T_impl_Rat) (xs := [.bool H0, .slice Hp Hn Hc, .slice Ip In Ic]) (by kernel_rfl) rfl rQc.cells1
  have bF := bF.chg ch36 (ne_sgF (by omega))
  have y36 : Ext w32 w36 := ((hn33.ext.trans hn34.ext).chg ch35 (le_sgF (by omega))).chg ch36 (le_sgF (by omega))
  have rF := rFc.ext y36; have rQ := rQc.ext y36
  have z36 := y32.trans y36
  have bA := bA.ext z36; have rA := rA.ext z36; have bM := bM.ext z36; have rM := rM.ext z36
  have x := x.trans z36; have xR := xR.trans z36
  refine ⟨w35, st35, w36, st36, _, _, _, _, _, bM.loadA0 (by kernel_rfl), ?_⟩
  refine Ret.at (impl_AfterFee_c (hR.ext xR) hcs rM (mon_codeF _ _) 5 (ht.ext x)) ?_
  rintro v w37 ⟨vs37, f37, hv, o37, _, _, _, y37⟩
  rw [FM.left] at hv o37
  subst hv
  have rL := o37.reps
  have rLc := rL
  obtain ⟨J0, J1, Jp, Jn, Jc, Jz, rfl, _, _⟩ := open_Money rL (mon_codeF _ _)
  refine ⟨_, _, _, _, _, _, rfl, ?_⟩
  intro r6 w38 hn38
  obtain ⟨w39, st39, bL, y39⟩ := hn38.fill (P := P) (t := T_impl_Money) rLc.cells1 (by kernel_rfl) rfl
  have rL := rLc.ext y39
  have z39 := y37.trans y39
  have bA := bA.ext z39; have rA := rA.ext z39; have bM := bM.ext z39; have rM := rM.ext z39; have bF := bF.ext z39; have rF := rF.ext z39; have bQ := bQ.ext z39; have rQ := rQ.ext z39
  have x := x.trans z39
  refine ⟨w39, st39, _, _, _, _, _, bL.loadA0 (by kernel_rfl), _, _, _, _, _, bF.loadA0 (by kernel_rfl), ?_⟩
  refine Ret.at (impl_MoneyAdd_e rL rF ok3 ok2 (ht.ext x)) ?_
  rintro v w40 ⟨vs40, f40, hv, o40, _, y40⟩
  unfold moneyMk at o40
  rw [show (n : Int) - f + f = (n : Int) by omega] at hv o40
  rw [if_pos ok1] at o40
  rw [ok1] at hv
  subst hv
  have rT := o40.reps
  have rTc := rT
  obtain ⟨K0, K1, Kp, Kn, Kc, Kz, rfl, _, _⟩ := open_Money rT (mon_codeF _ _)
  refine ⟨_, _, _, _, _, _, rfl, ?_⟩
  intro r7' w41 hn41
  obtain ⟨w42, st42, bT, y42⟩ := hn41.fill (P := P) (t := T_impl_Money) rTc.cells1 (by kernel_rfl) rfl
  have D42 := Ext.drew w42
  have rT := rTc.ext (y42.trans D42)
  have bT := bT.ext D42
  have z42 := y40.trans (y42.trans D42)
  have bA := bA.ext z42; have rA := rA.ext z42; have bM := bM.ext z42; have rM := rM.ext z42; have bF := bF.ext z42; have rF := rF.ext z42; have bQ := bQ.ext z42; have rQ := rQ.ext z42
  have x := x.trans z42
  refine ⟨w42, st42, fun _ => ?_, fun e => absurd e (by simp)⟩
  unfold laws_FnFee_s_j7
  refine ⟨fun _ => ?_, fun e => absurd e (by simp)⟩
  unfold laws_FnFee_s_j8
  refine ⟨fun _ => ?_, fun e => absurd e (by simp)⟩
  refine ⟨_, _, _, _, _, fun W hW => (bT.ext hW).loadA0 (by kernel_rfl), _, _, _, _, _, fun W hW => (bM.ext hW).loadA0 (by kernel_rfl), ?_⟩
  refine Ret.at (impl_MoneySame_c rT rM (mon_codeF _ _) (mon_codeF _ _)) ?_
  rintro v w43 ⟨hv, y43⟩
  rw [decide_eq_true rfl] at hv
  subst hv
  refine ⟨_, rfl, ?_⟩
  unfold laws_FnFee_s_j9
  refine ⟨fun _ => ?_, fun e => absurd e (by simp)⟩
  have bA := bA.ext y43; have rA := rA.ext y43; have bF := bF.ext y43; have rF := rF.ext y43; have bQ := bQ.ext y43; have rQ := rQ.ext y43
  have x := x.trans y43
  refine ⟨_, _, _, _, _, fun W hW => (bF.ext hW).loadA0 (by kernel_rfl), ?_⟩
  refine Ret.at (impl_MoneyRat_v rF ok2 (ht.ext x)) ?_
  rintro v w44 ⟨vs44, d44, rfl, r44, v44, y44⟩
  have r44c := r44
  obtain ⟨L0, Lp, Ln, Lc, Lz, Mp, Mn, Mc, Mz, rfl, _, _, _⟩ := open_Rat r44 v44.code
  refine ⟨_, _, _, _, _, _, _, rfl, y44, _, _, _, _, _, _, _, fun W hW => (bQ.ext hW).loadA0 (by kernel_rfl), ?_⟩
  have hXl : X.natAbs <= 4000 * 10 ^ 30 := Nat.le_trans FM.Xle (Nat.mul_le_mul (by omega) FM.Yle)
  have hYl := FM.Yle
  rw [pow30] at hXl hYl
  have eX : f * (Y : Int) + (X - f * Y) * ((1 : Nat) : Int) = X := by
    show f * (Y : Int) + (X - f * Y) * 1 = X
    omega
  refine Ret.at (impl_RatAdd_v r44c (rQ.ext y44) v44 FM.rest (by rw [eX]; exact len18x (by omega)) (by rw [Nat.one_mul]; exact len18x (by omega))) ?_
  rintro v w45 ⟨vs45, d45, rfl, r45, v45, y45⟩
  have r45c := r45
  obtain ⟨N0, Np, Nn, Nc, Nz, Op, On, Oc, Oz, rfl, _, _, _⟩ := open_Rat r45 v45.code
  refine ⟨_, _, _, _, _, _, _, _, rfl, y45, ?_⟩
  refine Ret.at (laws_must_c r45c v45.code) ?_
  rintro v w46 ⟨hv, y46⟩
  cases hv
  have z46 := y44.trans (y45.trans y46)
  refine ⟨_, _, _, _, _, _, _, rfl, y46, _, _, _, _, _, _, _, fun W hW => (bA.ext hW).loadA0 (by kernel_rfl), ?_⟩
  refine Ret.at (impl_RatCmp_v (r45c.ext y46) (rA.ext z46) v45 vA) ?_
  rintro v w47 ⟨hv, y47⟩
  rw [cmp_back FM] at hv
  subst hv
  exact ⟨_, rfl, rfl, x.trans (z46.trans y47)⟩
end Go.Proofs.YtgbknjdjbahdkaaGreatDoor
